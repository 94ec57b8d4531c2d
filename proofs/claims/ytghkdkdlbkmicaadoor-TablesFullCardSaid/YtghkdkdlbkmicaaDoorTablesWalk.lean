/- TablesFull: the walk. -/
import Derived.Test.YtghkdkdlbkmicaaDoorTablesFull
import Derived.Test.YtghkdkdlbkmicaaDoorRows2
namespace Go.Proofs.YtghkdkdlbkmicaaDoor.law10
open Go.RowKit

/-- Where the i-th one joins. -/
def posOf (shut i : Nat) : Nat := if i < 4 * shut then i else i + 4
theorem St.onward {g : Int → Int → Int → Int} {n shut i : Nat} (h : St g n shut (posOf shut i + 1)) : St g n shut (posOf shut (i + 1)) := by
  unfold posOf at *
  by_cases h1 : i + 1 < 4 * shut
  · rw [if_pos (by omega)] at h
    rw [if_pos h1]
    exact h
  · by_cases h2 : i + 1 = 4 * shut
    · rw [if_pos (by omega)] at h
      rw [if_neg h1, show i + 1 + 4 = 4 * shut + 4 by omega]
      rw [h2] at h
      exact h.hop
    · rw [if_neg (by omega)] at h
      rw [if_neg h1, show i + 1 + 4 = i + 4 + 1 by omega]
      exact h
theorem St.begin {g : Int → Int → Int → Int} {n shut : Nat} (h : St g n shut 0) : St g n shut (posOf shut 0) := by
  unfold posOf
  by_cases h1 : 0 < 4 * shut
  · rw [if_pos h1]
    exact h
  · obtain rfl : shut = 0 := by omega
    exact h.hop

def seenB (shut P t : Nat) : Bool := decide (t < P ∧ t / 4 ≠ shut)
structure SeenT (arr : Array Value) (shut P : Nat) : Prop where
  size : arr.size = 16
  at_ : ∀ t, t < 16 → arr[t]? = some (.bool (seenB shut P t))
theorem SeenT.new (shut : Nat) : SeenT (Array.replicate 16 (.bool false)) shut 0 := ⟨by simp, fun t ht => by simp [ht, seenB]⟩
theorem SeenT.hop {arr : Array Value} {shut P Q : Nat} (h : SeenT arr shut P) (hq : ∀ t, t / 4 ≠ shut → (t < P ↔ t < Q)) : SeenT arr shut Q := by
  refine ⟨h.size, fun t ht => ?_⟩
  rw [h.at_ t ht]
  have : seenB shut P t = seenB shut Q t := by
    unfold seenB
    rw [decide_eq_decide]
    constructor
    · exact fun a => ⟨(hq t a.2).1 a.1, a.2⟩
    · exact fun a => ⟨(hq t a.2).2 a.1, a.2⟩
  rw [this]
theorem SeenT.begin (shut : Nat) : SeenT (Array.replicate 16 (.bool false)) shut (posOf shut 0) :=
  (SeenT.new shut).hop (fun t ht => by unfold posOf; split <;> omega)
theorem SeenT.set {arr : Array Value} {shut i : Nat} (h : SeenT arr shut (posOf shut i)) (h16 : posOf shut i < 16) : SeenT (arr.setIfInBounds (posOf shut i) (.bool true)) shut (posOf shut (i + 1)) := by
  have h1 : SeenT (arr.setIfInBounds (posOf shut i) (.bool true)) shut (posOf shut i + 1) := by
    refine ⟨by simpa using h.size, fun t ht => ?_⟩
    rw [Array.getElem?_setIfInBounds]
    by_cases e : posOf shut i = t
    · rw [if_pos e, if_pos (by rw [h.size]; exact h16)]
      have : seenB shut (posOf shut i + 1) t = true := by
        unfold seenB posOf at *
        rw [decide_eq_true_eq]
        split at e <;> split <;> omega
      rw [this]
    · rw [if_neg e, h.at_ t ht]
      have : seenB shut (posOf shut i) t = seenB shut (posOf shut i + 1) t := by
        unfold seenB
        rw [decide_eq_decide]
        omega
      rw [this]
  exact h1.hop (fun t ht => by
    unfold posOf
    split <;> split <;> omega)
theorem pos_lt {n shut i : Nat} (hi : i < 4 * n - (if shut < n then 4 else 0)) (hs : shut ≤ n) : posOf shut i < 4 * n ∧ posOf shut i / 4 ≠ shut := by
  unfold posOf
  split at hi <;> split <;> omega
theorem pos_full {n shut : Nat} (hs : shut ≤ n) : 4 * n ≤ posOf shut (4 * n - (if shut < n then 4 else 0)) := by
  unfold posOf
  split <;> split <;> omega

theorem make16 (w : World) : (Instr.makeSlice 34 (.int .i64 16) (.int .i64 16)).run Tryd.prog w = .ok (.slice (some ⟨w.heap.size, 0, none⟩) 16 16) (w.alloc (.cells (Array.replicate 16 (.bool false)) 4)) := by
  kernel_rfl

end Go.Proofs.YtghkdkdlbkmicaaDoor.law10
