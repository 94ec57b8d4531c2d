/- The table that is filled one behind the other: its states, in plain Lean. -/
import Derived.Test.YtghkdkdlbkmicaaDoorTabFull
namespace Go.Proofs.YtghkdkdlbkmicaaDoor
open Go.RowKit

/-- How many a block has, when those below P joined, but none in the block that is shut. -/
def cntP (shut P k : Nat) : Nat := if k = shut then 0 else min 4 (P - 4 * k)
def shutP (n shut : Nat) (k : Nat) : Bool := decide (k = shut ∧ shut < n)
def inP (shut P t : Nat) : Prop := t < P ∧ t / 4 ≠ shut

structure St (g : Int → Int → Int → Int) (n shut P : Nat) : Prop where
  n4 : n ≤ 4
  sn : shut ≤ n
  blocks : g 5 0 0 = n
  word : ∀ k : Nat, k < 4 → g 7 k 0 = blockW (cntP shut P k) (shutP n shut k)
  own : ∀ t : Nat, t < 16 → (g 8 t 0 ≠ 0 ↔ inP shut P t)
  zero : ∀ t : Nat, t < 16 → g 8 t 1 = 0

theorem cntP_le (shut P k : Nat) : cntP shut P k ≤ 4 := by
  unfold cntP
  split <;> omega
theorem St.tab {g : Int → Int → Int → Int} {n shut P : Nat} (h : St g n shut P) : Tab g n (cntP shut P) (shutP n shut) (fun t => g 8 t 0) :=
  ⟨h.n4, h.blocks, h.word, fun _ _ => rfl, fun k _ => cntP_le shut P k⟩
theorem passed_of {n shut P : Nat} (i : Nat) (hi : i < n) (hP : 4 * i + 4 ≤ P) : Passed (cntP shut P) (shutP n shut) i := by
  unfold Passed cntP shutP
  by_cases e : i = shut
  · left
    simp only [decide_eq_true_eq]
    omega
  · right
    rw [if_neg e]
    omega

/-- Behind a block that is shut. -/
theorem St.hop {g : Int → Int → Int → Int} {n shut : Nat} (h : St g n shut (4 * shut)) : St g n shut (4 * shut + 4) := by
  refine ⟨h.n4, h.sn, h.blocks, fun k hk => ?_, fun t ht => ?_, h.zero⟩
  · rw [h.word k hk]
    congr 2
    unfold cntP
    split <;> omega
  · rw [h.own t ht]
    unfold inP
    omega

/-- Other words of theirs. -/
theorem St.same {g g' : Int → Int → Int → Int} {n shut P : Nat} (h : St g n shut P) (hg : ∀ a b c, ¬ (a = 8 ∧ 2 ≤ c ∧ c ≤ 9) → g' a b c = g a b c) : St g' n shut P := by
  refine ⟨h.n4, h.sn, ?_, fun k hk => ?_, fun t ht => ?_, fun t ht => ?_⟩
  · rw [hg _ _ _ (by omega)]
    exact h.blocks
  · rw [hg _ _ _ (by omega)]
    exact h.word k hk
  · rw [hg _ _ _ (by omega)]
    exact h.own t ht
  · rw [hg _ _ _ (by omega)]
    exact h.zero t ht

theorem St.join {σ : MS} {n shut P : Nat} {o : Int} (h : St σ.g n shut P) (o0 : 0 ≤ o) (o1 : o < 1000000) (hP : P < 4 * n) (hs : P / 4 ≠ shut) :
    JoinEnds o σ (P / 4 + P % 4 + 13) ∧ (joinRun o σ (P / 4 + P % 4 + 13)).1.got = P ∧ (joinRun o σ (P / 4 + P % 4 + 13)).1.e = 0 ∧ St (joinRun o σ (P / 4 + P % 4 + 13)).2.g n shut (P + 1) ∧
    (∀ c, 1 ≤ c → c ≤ 9 → (joinRun o σ (P / 4 + P % 4 + 13)).2.g 8 P c = 0) ∧ (joinRun o σ (P / 4 + P % 4 + 13)).2.g 8 P 0 = o + 1 := by
  have h4 := h.n4
  have hPP : P / 4 * 4 + P % 4 = P := by omega
  have hcnt : cntP shut P (P / 4) = P % 4 := by
    unfold cntP
    rw [if_neg hs]
    omega
  have hj := join_alone (o := o) h.tab o0 o1 (P / 4) (P % 4) (by omega) (fun i hi => passed_of i (by omega) (by omega)) (by simp [shutP]; omega) (by rw [hcnt]; omega) (by omega) (fun i hi => (h.own _ (by omega)).2 ⟨by omega, by omega⟩) (by
    rw [hPP]
    exact Decidable.not_not.1 (fun hh => by have := (h.own P (by omega)).1 hh; unfold inP at this; omega))
  rw [hPP, hcnt] at hj
  obtain ⟨h1, h2, h3, h5⟩ := hj
  refine ⟨h1, h2, h3, ⟨h4, h.sn, ?_, fun k hk => ?_, fun t ht => ?_, fun t ht => ?_⟩, fun c c1 c9 => ?_, ?_⟩
  · rw [h5, if_neg (by omega), if_neg (by omega), if_neg (by omega)]
    exact h.blocks
  · rw [h5, if_neg (by omega), if_neg (by omega)]
    by_cases e : k = P / 4
    · rw [if_pos ⟨rfl, by omega, rfl⟩]
      subst e
      rw [show shutP n shut (P / 4) = false by simp [shutP]; omega]
      congr 2
      unfold cntP
      rw [if_neg hs]
      omega
    · rw [if_neg (by omega), h.word k hk]
      congr 2
      unfold cntP
      split <;> omega
  · rw [h5, if_neg (by omega)]
    by_cases e : t = P
    · subst e
      rw [if_pos ⟨rfl, rfl, rfl⟩]
      unfold inP
      omega
    · rw [if_neg (by omega), if_neg (by omega), h.own t ht]
      unfold inP
      omega
  · rw [h5]
    by_cases e : t = P
    · rw [if_pos ⟨rfl, by omega, by omega, by omega⟩]
    · rw [if_neg (by omega), if_neg (by omega), if_neg (by omega)]
      exact h.zero t ht
  · rw [h5, if_pos ⟨rfl, rfl, c1, c9⟩]
  · rw [h5, if_neg (by omega), if_pos ⟨rfl, rfl, rfl⟩]

theorem St.full {σ : MS} {n shut P : Nat} {o : Int} (h : St σ.g n shut P) (o0 : 0 ≤ o) (hP : 4 * n ≤ P) :
    JoinEnds o σ (n + 1) ∧ (joinRun o σ (n + 1)).1.got = -1 ∧ (joinRun o σ (n + 1)).1.e = 5 ∧ (joinRun o σ (n + 1)).2.g = σ.g :=
  full_alone h.tab o0 (fun i hi => passed_of i hi (by omega))

def cntG (shut P t k : Nat) : Nat := cntP shut P k - (if k = t / 4 then 1 else 0)
/-- One is gone. -/
structure Gone (g : Int → Int → Int → Int) (n shut P t : Nat) : Prop where
  n4 : n ≤ 4
  sn : shut ≤ n
  blocks : g 5 0 0 = n
  word : ∀ k : Nat, k < 4 → g 7 k 0 = blockW (cntG shut P t k) (shutP n shut k)
  own : ∀ s : Nat, s < 16 → (g 8 s 0 ≠ 0 ↔ inP shut P s ∧ s ≠ t)
  zero : ∀ s : Nat, s < 16 → g 8 s 1 = 0

theorem St.left {σ : MS} {n shut P t : Nat} (h : St σ.g n shut P) (t1 : t < 16) (ht : inP shut P t) :
    LeaveEnds t σ 6 ∧ (leaveRun t σ 6).1.e = 0 ∧ Gone (leaveRun t σ 6).2.g n shut P t := by
  have h4 := h.n4
  have hcnt : 1 ≤ cntP shut P (t / 4) := by
    unfold cntP inP at *
    rw [if_neg ht.2]
    omega
  obtain ⟨h1, h2, h3⟩ := leave_alone h.tab t t1 ((h.own t t1).2 ht) (h.zero t t1) hcnt
  refine ⟨h1, h2, ⟨h4, h.sn, ?_, fun k hk => ?_, fun s hs => ?_, fun s hs => ?_⟩⟩
  · rw [h3, if_neg (by omega), if_neg (by omega)]
    exact h.blocks
  · rw [h3]
    by_cases e : k = t / 4
    · subst e
      rw [if_pos ⟨rfl, rfl, rfl⟩]
      unfold cntG
      rw [if_pos rfl]
    · rw [if_neg (by omega), if_neg (by omega), h.word k hk]
      unfold cntG
      rw [if_neg e]
      rfl
  · rw [h3, if_neg (by omega)]
    by_cases e : s = t
    · rw [if_pos ⟨rfl, by omega, .inl rfl⟩]
      simp [e]
    · rw [if_neg (by omega), h.own s hs]
      exact ⟨fun a => ⟨a, e⟩, fun a => a.1⟩
  · rw [h3, if_neg (by omega), if_neg (by omega)]
    exact h.zero s hs

/-- What is gone comes again. -/
theorem Gone.join {σ : MS} {n shut P t : Nat} {o : Int} (h : Gone σ.g n shut P t) (o0 : 0 ≤ o) (o1 : o < 1000000) (hP : 4 * n ≤ P) (ht : t < 4 * n) (hs : t / 4 ≠ shut) :
    JoinEnds o σ (t / 4 + t % 4 + 13) ∧ (joinRun o σ (t / 4 + t % 4 + 13)).1.got = t ∧ (joinRun o σ (t / 4 + t % 4 + 13)).1.e = 0 ∧ St (joinRun o σ (t / 4 + t % 4 + 13)).2.g n shut P := by
  have h4 := h.n4
  have hPP : t / 4 * 4 + t % 4 = t := by omega
  have hcnt : cntG shut P t (t / 4) = 3 := by
    unfold cntG cntP
    rw [if_neg hs, if_pos rfl]
    omega
  have htab : Tab σ.g n (cntG shut P t) (shutP n shut) (fun t => σ.g 8 t 0) :=
    ⟨h4, h.blocks, h.word, fun _ _ => rfl, fun k _ => by have := cntP_le shut P k; unfold cntG; omega⟩
  have hj := join_alone (o := o) htab o0 o1 (t / 4) (t % 4) (by omega) (fun i hi => by
    unfold Passed cntG cntP shutP
    by_cases e : i = shut
    · left
      simp only [decide_eq_true_eq]
      omega
    · right
      rw [if_neg e, if_neg (by omega)]
      omega) (by simp [shutP]; omega) (by rw [hcnt]; omega) (by omega) (fun i hi => (h.own _ (by omega)).2 ⟨⟨by omega, by omega⟩, by omega⟩) (by
    rw [hPP]
    exact Decidable.not_not.1 (fun hh => ((h.own t (by omega)).1 hh).2 rfl))
  rw [hPP, hcnt] at hj
  obtain ⟨h1, h2, h3, h5⟩ := hj
  refine ⟨h1, h2, h3, ⟨h4, h.sn, ?_, fun k hk => ?_, fun s hs' => ?_, fun s hs' => ?_⟩⟩
  · rw [h5, if_neg (by omega), if_neg (by omega), if_neg (by omega)]
    exact h.blocks
  · rw [h5, if_neg (by omega), if_neg (by omega)]
    by_cases e : k = t / 4
    · rw [if_pos ⟨rfl, by omega, rfl⟩]
      subst e
      rw [show shutP n shut (t / 4) = false by simp [shutP]; omega]
      congr 2
      unfold cntP
      rw [if_neg hs]
      omega
    · rw [if_neg (by omega), h.word k hk]
      unfold cntG
      rw [if_neg e]
      rfl
  · rw [h5, if_neg (by omega)]
    by_cases e : s = t
    · subst e
      rw [if_pos ⟨rfl, rfl, rfl⟩]
      unfold inP
      omega
    · rw [if_neg (by omega), if_neg (by omega), h.own s hs']
      exact ⟨fun a => a.1, fun a => ⟨a, e⟩⟩
  · rw [h5]
    by_cases e : s = t
    · rw [if_pos ⟨rfl, by omega, by omega, by omega⟩]
    · rw [if_neg (by omega), if_neg (by omega), if_neg (by omega)]
      exact h.zero s hs'

/-- A table of so many blocks, one of them shut. -/
theorem St.first (n shut : Nat) (hn : n ≤ 4) (hs : shut ≤ n) (g : Int → Int → Int → Int) (hg : ∀ a b c, g a b c = if a = 7 ∧ b = shut ∧ c = 0 ∧ shut < n then 4294967296 else if a = 5 ∧ b = 0 ∧ c = 0 then (n : Int) else 0) : St g n shut 0 := by
  refine ⟨hn, hs, ?_, fun k hk => ?_, fun t ht => ?_, fun t ht => ?_⟩
  · rw [hg, if_neg (by omega), if_pos ⟨rfl, rfl, rfl⟩]
  · rw [hg]
    have hz : cntP shut 0 k = 0 := by
      unfold cntP
      split <;> omega
    rw [hz]
    by_cases e : k = shut ∧ shut < n
    · rw [if_pos ⟨rfl, by omega, rfl, e.2⟩, show shutP n shut k = true by simp [shutP, e]]
      rfl
    · rw [if_neg (by omega), if_neg (by omega), show shutP n shut k = false by simpa [shutP] using e]
      rfl
  · rw [hg, if_neg (by omega), if_neg (by omega)]
    unfold inP
    omega
  · rw [hg, if_neg (by omega), if_neg (by omega)]

end Go.Proofs.YtghkdkdlbkmicaaDoor
