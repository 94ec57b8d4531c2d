/- Joins and leaves of one alone: the plain law. -/
import Derived.Test.YtghkdkdlbkmicaaDoorTableSys
namespace Go.Proofs.YtghkdkdlbkmicaaDoor
open Go.RowKit

/-- n steps of a Join by one alone are behind: it is at j, the memory at σ. -/
structure JAt (o : Int) (σ0 : MS) (n : Nat) (j : JoinS) (σ : MS) : Prop where
  run : joinRun o σ0 n = (j, σ)
  on : ∀ i, 1 ≤ i → i < n → (joinRun o σ0 i).1.line ≠ 0
  ok : ∀ i, i < n → (joinRun o σ0 i).1.Ok (joinRun o σ0 i).2
theorem JAt.zero (o : Int) (σ0 : MS) : JAt o σ0 0 (JoinS.new o) σ0 := ⟨rfl, fun i h1 h2 => by omega, fun i h => by omega⟩
theorem JAt.step {o : Int} {σ0 : MS} {n : Nat} {j j' : JoinS} {σ σ' : MS} (h : JAt o σ0 n j σ) (hl : j.line ≠ 0) (hok : j.Ok σ) (hs : j.step σ = (j', σ')) : JAt o σ0 (n + 1) j' σ' := by
  refine ⟨?_, fun i h1 h2 => ?_, fun i hi => ?_⟩
  · show (joinRun o σ0 n).1.step (joinRun o σ0 n).2 = _
    rw [h.run]
    exact hs
  · rcases Nat.lt_or_ge i n with h3 | h3
    · exact h.on i h1 h3
    · obtain rfl : i = n := by omega
      rw [h.run]
      exact hl
  · rcases Nat.lt_or_ge i n with h3 | h3
    · exact h.ok i h3
    · obtain rfl : i = n := by omega
      rw [h.run]
      exact hok
theorem JAt.ends {o : Int} {σ0 : MS} {n : Nat} {j : JoinS} {σ : MS} (h : JAt o σ0 n j σ) (h1 : 1 ≤ n) (h40 : n ≤ 40) (hl : j.line = 0) (ho : j.owner ≠ 0) : JoinEnds o σ0 n :=
  ⟨h1, h40, by rw [h.run]; exact hl, h.on, h.ok, by rw [h.run]; exact ho⟩

/-- The table: nb blocks; a block's count and whether it is closed; who owns each thread. -/
structure Tab (g : Int → Int → Int → Int) (nb : Nat) (cnt : Nat → Nat) (shut : Nat → Bool) (own : Nat → Int) : Prop where
  nb4 : nb ≤ 4
  blocks : g 5 0 0 = nb
  word : ∀ k : Nat, k < 4 → g 7 k 0 = blockW (cnt k) (shut k)
  owner : ∀ t : Nat, t < 16 → g 8 t 0 = own t
  small : ∀ k : Nat, k < 4 → cnt k ≤ 4

/-- A block that is passed by. -/
def Passed (cnt : Nat → Nat) (shut : Nat → Bool) (k : Nat) : Prop := shut k = true ∨ cnt k = 4

section
variable {o : Int} {σ0 σ : MS} {n nb : Nat} {cnt : Nat → Nat} {shut : Nat → Bool} {own : Nat → Int}

theorem JAt.count (h : JAt o σ0 0 (JoinS.new o) σ0) (ht : Tab σ0.g nb cnt shut own) (hn : 1 ≤ nb) :
    ∃ σ, JAt o σ0 1 ⟨2, 0, 0, 0, o + 1, nb, 0, -1⟩ σ ∧ σ.g = σ0.g := by
  have h4 := ht.nb4
  refine ⟨σ0.load 5 0 0, h.step (by simp [JoinS.new]) (.inr (.inl ⟨rfl, by rw [ht.blocks]; omega⟩)) ?_, rfl⟩
  have hne : ¬ σ0.g 5 0 0 = 0 := by rw [ht.blocks]; omega
  simp [JoinS.step, JoinS.new, hne]
  rw [ht.blocks]

theorem JAt.pass {k : Nat} {wd e ow kk th : Int} (h : JAt o σ0 n ⟨2, k, wd, e, ow, nb, kk, th⟩ σ) (ht : Tab σ.g nb cnt shut own) (hk : k + 1 < nb) (hp : Passed cnt shut k) :
    ∃ σ' wd', JAt o σ0 (n + 1) ⟨2, (k + 1 : Nat), wd', e, ow, nb, kk, th⟩ σ' ∧ σ'.g = σ.g := by
  have h4 := ht.nb4
  have hs := ht.small k (by omega)
  have hw := ht.word k (by omega)
  refine ⟨σ.load 7 k 0, σ.g 7 k 0, h.step (by simp) (.inr (.inr (.inl ⟨rfl, by simp only; omega, by simp only; omega⟩))) ?_, rfl⟩
  have hn : blkN (σ.g 7 k 0) = cnt k := by rw [hw]; exact blkN_blockW (by omega) (by omega) _
  have hc : blkC (σ.g 7 k 0) = shut k := by rw [hw]; exact blkC_blockW (by omega) (by omega) _
  have hne : ¬ (blkC (σ.g 7 k 0) = false ∧ blkN (σ.g 7 k 0) < 4) := by
    rw [hn, hc]
    rintro ⟨a, b⟩
    rcases hp with h | h
    · rw [a] at h
      cases h
    · omega
  have hb : ¬ ((k : Int) + 1 = nb) := by omega
  simp only [JoinS.step]
  rw [if_neg (by omega), if_pos trivial, if_neg hne, if_neg hb]
  rfl

/-- The last block is passed by: the table is full. -/
theorem JAt.full {k : Nat} {wd e ow kk th : Int} (h : JAt o σ0 n ⟨2, k, wd, e, ow, nb, kk, th⟩ σ) (ht : Tab σ.g nb cnt shut own) (hk : k + 1 = nb) (hp : Passed cnt shut k) :
    ∃ σ' wd', JAt o σ0 (n + 1) ⟨0, (k + 1 : Nat), wd', 5, ow, nb, kk, th⟩ σ' ∧ σ'.g = σ.g := by
  have h4 := ht.nb4
  have hs := ht.small k (by omega)
  have hw := ht.word k (by omega)
  refine ⟨σ.load 7 k 0, σ.g 7 k 0, h.step (by simp) (.inr (.inr (.inl ⟨rfl, by simp only; omega, by simp only; omega⟩))) ?_, rfl⟩
  have hn : blkN (σ.g 7 k 0) = cnt k := by rw [hw]; exact blkN_blockW (by omega) (by omega) _
  have hc : blkC (σ.g 7 k 0) = shut k := by rw [hw]; exact blkC_blockW (by omega) (by omega) _
  have hne : ¬ (blkC (σ.g 7 k 0) = false ∧ blkN (σ.g 7 k 0) < 4) := by
    rw [hn, hc]
    rintro ⟨a, b⟩
    rcases hp with h | h
    · rw [a] at h
      cases h
    · omega
  have hb : ((k : Int) + 1 = nb) := by omega
  simp only [JoinS.step]
  rw [if_neg (by omega), if_pos trivial, if_neg hne, if_pos hb]
  rfl

/-- A block that has room: it is looked at, and one more joins it. -/
theorem JAt.room {k : Nat} {wd e ow kk th : Int} (h : JAt o σ0 n ⟨2, k, wd, e, ow, nb, kk, th⟩ σ) (ht : Tab σ.g nb cnt shut own) (hk : k < nb) (hs : shut k = false) (hc : cnt k < 4) :
    ∃ σ' wd', JAt o σ0 (n + 2) ⟨4, k, wd', e, ow, nb, 0, th⟩ σ' ∧ ∀ a b c, σ'.g a b c = if a = 7 ∧ b = k ∧ c = 0 then blockW (cnt k + 1 : Nat) false else σ.g a b c := by
  have h4 := ht.nb4
  have hw := ht.word k (by omega)
  have hn : blkN (σ.g 7 k 0) = cnt k := by rw [hw]; exact blkN_blockW (by omega) (by omega) _
  have hcc : blkC (σ.g 7 k 0) = false := by rw [hw, hs]; exact blkC_blockW (by omega) (by omega) _
  have hr := blockW_range (n := (cnt k : Int)) (by omega) (by omega) (shut k)
  have hmay : mayA 7 k 0 = true := by
    simp [mayA, roomAt, roomF]
    omega
  have h1 : JAt o σ0 (n + 1) ⟨3, k, σ.g 7 k 0, e, ow, nb, kk, th⟩ (σ.load 7 k 0) := by
    refine h.step (by simp) (.inr (.inr (.inl ⟨rfl, by simp only; omega, by simp only; omega⟩))) ?_
    simp only [JoinS.step]
    rw [if_neg (by omega), if_pos trivial, if_pos ⟨hcc, by rw [hn]; omega⟩]
  have h2 := h1.step (j' := ⟨4, k, σ.g 7 k 0, e, ow, nb, 0, th⟩) (σ' := (σ.load 7 k 0).cas 7 k 0 (σ.g 7 k 0) (blockW (blkN (σ.g 7 k 0) + 1) (blkC (σ.g 7 k 0)))) (by simp) (.inr (.inr (.inr (.inl ⟨rfl, by simp only; rw [hw]; exact hr.1, by simp only; rw [hw]; exact hr.2, by simp only; rw [hn]; omega, hmay⟩)))) (by
    simp [JoinS.step, MS.load])
  refine ⟨_, _, h2, fun a b c => ?_⟩
  unfold MS.cas
  rw [if_pos ⟨by simp [MS.load], hmay⟩]
  simp only [MS.put, hn, hcc, MS.load]
  rfl

theorem JAt.busy {k i : Nat} {wd e ow th : Int} {B : Int} (h : JAt o σ0 n ⟨4, k, wd, e, ow, B, i, th⟩ σ) (hk : k < 4) (hi : i + 1 < 4) (o0 : 0 ≤ ow) (o1 : ow < 18446744073709551616) (hb : σ.g 8 ((k : Int) * 4 + i) 0 ≠ 0) :
    ∃ σ', JAt o σ0 (n + 1) ⟨4, k, wd, e, ow, B, (i + 1 : Nat), th⟩ σ' ∧ σ'.g = σ.g := by
  have hne : ¬ σ.g 8 ((k : Int) * 4 + i) 0 = 0 := hb
  refine ⟨σ.cas 8 ((k : Int) * 4 + i) 0 0 ow, h.step (by simp) (.inr (.inr (.inr (.inr (.inl ⟨rfl, by simp only; omega, by simp only; omega, by simp only; omega, by simp only; omega, o0, o1⟩))))) ?_, ?_⟩
  · have h4 : ¬ ((i : Int) + 1 = 4) := by omega
    simp [JoinS.step, hne, h4]
  · funext a b c
    simp [MS.cas, hne]

theorem JAt.take {k i : Nat} {wd e ow th : Int} {B : Int} (h : JAt o σ0 n ⟨4, k, wd, e, ow, B, i, th⟩ σ) (hk : k < 4) (hi : i < 4) (o0 : 0 ≤ ow) (o1 : ow < 18446744073709551616) (hb : σ.g 8 ((k : Int) * 4 + i) 0 = 0) :
    ∃ σ', JAt o σ0 (n + 1) ⟨5, k, wd, e, ow, B, 1, (k : Int) * 4 + i⟩ σ' ∧ ∀ a b c, σ'.g a b c = if a = 8 ∧ b = (k : Int) * 4 + i ∧ c = 0 then ow else σ.g a b c := by
  have hmay : mayA 8 ((k : Int) * 4 + i) 0 = true := by
    simp [mayA, roomAt, roomF]
    omega
  refine ⟨σ.cas 8 ((k : Int) * 4 + i) 0 0 ow, h.step (by simp) (.inr (.inr (.inr (.inr (.inl ⟨rfl, by simp only; omega, by simp only; omega, by simp only; omega, by simp only; omega, o0, o1⟩))))) ?_, fun a b c => ?_⟩
  · simp [JoinS.step, hb]
  · unfold MS.cas
    rw [if_pos ⟨by simp [hb], hmay⟩]
    rfl

theorem JAt.clear {f : Nat} {t K wd e ow : Int} {B : Int} (h : JAt o σ0 n ⟨5, K, wd, e, ow, B, f, t⟩ σ) (t0 : 0 ≤ t) (t1 : t < 16) (hf : f + 1 < 10) :
    ∃ σ', JAt o σ0 (n + 1) ⟨5, K, wd, e, ow, B, (f + 1 : Nat), t⟩ σ' ∧ ∀ a b c, σ'.g a b c = if a = 8 ∧ b = t ∧ c = f then 0 else σ.g a b c := by
  have hmay : mayA 8 t f = true := by
    simp [mayA, roomAt, roomF]
    omega
  refine ⟨σ.store 8 t f 0, h.step (by simp) (.inr (.inr (.inr (.inr (.inr ⟨rfl, t0, t1, by simp only; omega, by simp only; omega⟩))))) ?_, fun a b c => ?_⟩
  · have h10 : ¬ ((f : Int) + 1 = 10) := by omega
    simp [JoinS.step, h10]
  · unfold MS.store
    rw [if_pos hmay]
    rfl
theorem JAt.last {t K wd e ow : Int} {B : Int} (h : JAt o σ0 n ⟨5, K, wd, e, ow, B, 9, t⟩ σ) (t0 : 0 ≤ t) (t1 : t < 16) :
    ∃ σ', JAt o σ0 (n + 1) ⟨0, K, wd, 0, ow, B, 10, t⟩ σ' ∧ ∀ a b c, σ'.g a b c = if a = 8 ∧ b = t ∧ c = 9 then 0 else σ.g a b c := by
  have hmay : mayA 8 t 9 = true := by
    simp [mayA, roomAt, roomF]
    omega
  refine ⟨σ.store 8 t 9 0, h.step (by simp) (.inr (.inr (.inr (.inr (.inr ⟨rfl, t0, t1, by simp only; omega, by simp only; omega⟩))))) ?_, fun a b c => ?_⟩
  · simp [JoinS.step]
  · unfold MS.store
    rw [if_pos hmay]
    rfl

theorem Tab.same {g g' : Int → Int → Int → Int} (h : Tab g nb cnt shut own) (e : g' = g) : Tab g' nb cnt shut own := by rw [e]; exact h

theorem JAt.passes (ht : Tab σ0.g nb cnt shut own) (k : Nat) (hk : k < nb) (hp : ∀ i, i < k → Passed cnt shut i) :
    ∃ σ wd, JAt o σ0 (1 + k) ⟨2, k, wd, 0, o + 1, nb, 0, -1⟩ σ ∧ σ.g = σ0.g := by
  induction k with
  | zero =>
    obtain ⟨σ, h, hg⟩ := (JAt.zero o σ0).count ht (by omega)
    exact ⟨σ, 0, h, hg⟩
  | succ k ih =>
    obtain ⟨σ, wd, h, hg⟩ := ih (by omega) (fun i hi => hp i (by omega))
    obtain ⟨σ', wd', h', hg'⟩ := h.pass (ht.same hg) hk (hp k (by omega))
    exact ⟨σ', wd', h', by rw [hg', hg]⟩

theorem JAt.busies {k : Nat} {wd e ow th : Int} {B : Int} (h : JAt o σ0 n ⟨4, k, wd, e, ow, B, 0, th⟩ σ) (hk : k < 4) (o0 : 0 ≤ ow) (o1 : ow < 18446744073709551616) (s : Nat) (hs : s < 4) (hb : ∀ i : Nat, i < s → σ.g 8 ((k : Int) * 4 + i) 0 ≠ 0) :
    ∃ σ', JAt o σ0 (n + s) ⟨4, k, wd, e, ow, B, s, th⟩ σ' ∧ σ'.g = σ.g := by
  induction s with
  | zero => exact ⟨σ, h, rfl⟩
  | succ s ih =>
    obtain ⟨σ1, h1, hg1⟩ := ih (by omega) (fun i hi => hb i (by omega))
    obtain ⟨σ2, h2, hg2⟩ := h1.busy hk (by omega) o0 o1 (by rw [hg1]; exact hb s (by omega))
    exact ⟨σ2, h2, by rw [hg2, hg1]⟩

theorem JAt.clears {t K wd e ow : Int} {B : Int} (h : JAt o σ0 n ⟨5, K, wd, e, ow, B, 1, t⟩ σ) (t0 : 0 ≤ t) (t1 : t < 16) (i : Nat) (hi : i ≤ 8) :
    ∃ σ', JAt o σ0 (n + i) ⟨5, K, wd, e, ow, B, (1 + i : Nat), t⟩ σ' ∧ ∀ a b c, σ'.g a b c = if a = 8 ∧ b = t ∧ 1 ≤ c ∧ c ≤ i then 0 else σ.g a b c := by
  induction i with
  | zero => exact ⟨σ, h, fun a b c => by rw [if_neg (by omega)]⟩
  | succ i ih =>
    obtain ⟨σ1, h1, hg1⟩ := ih (by omega)
    obtain ⟨σ2, h2, hg2⟩ := h1.clear t0 t1 (by omega)
    refine ⟨σ2, by simpa [Nat.add_assoc] using h2, fun a b c => ?_⟩
    rw [hg2, hg1]
    by_cases e1 : a = 8 ∧ b = t ∧ c = ((1 + i : Nat) : Int)
    · rw [if_pos e1, if_pos ⟨e1.1, e1.2.1, by omega, by omega⟩]
    · rw [if_neg e1]
      by_cases e2 : a = 8 ∧ b = t ∧ 1 ≤ c ∧ c ≤ i
      · rw [if_pos e2, if_pos ⟨e2.1, e2.2.1, by omega, by omega⟩]
      · rw [if_neg e2, if_neg (by omega)]

/-- One alone joins where there is room: the first thread that is free of the first block that has room. -/
theorem join_alone (ht : Tab σ0.g nb cnt shut own) (o0 : 0 ≤ o) (o1 : o < 1000000) (k s : Nat) (hk : k < nb) (hp : ∀ i, i < k → Passed cnt shut i) (hsh : shut k = false) (hc : cnt k < 4) (hs : s < 4) (hb : ∀ i : Nat, i < s → own (k * 4 + i) ≠ 0) (hfree : own (k * 4 + s) = 0) :
    JoinEnds o σ0 (k + s + 13) ∧ (joinRun o σ0 (k + s + 13)).1.got = (k * 4 + s : Nat) ∧ (joinRun o σ0 (k + s + 13)).1.e = 0 ∧
    ∀ a b c, (joinRun o σ0 (k + s + 13)).2.g a b c = if a = 8 ∧ b = (k * 4 + s : Nat) ∧ 1 ≤ c ∧ c ≤ 9 then 0 else if a = 8 ∧ b = (k * 4 + s : Nat) ∧ c = 0 then o + 1 else if a = 7 ∧ b = k ∧ c = 0 then blockW (cnt k + 1 : Nat) false else σ0.g a b c := by
  have h4 := ht.nb4
  obtain ⟨σ1, wd1, h1, hg1⟩ := JAt.passes (o := o) ht k hk hp
  obtain ⟨σ2, wd2, h2, hg2⟩ := h1.room (ht.same hg1) hk hsh hc
  have hown : ∀ i : Nat, i < 4 → σ2.g 8 ((k : Int) * 4 + i) 0 = own (k * 4 + i) := fun i hi => by
    rw [hg2, if_neg (by omega), hg1, ← ht.owner (k * 4 + i) (by omega)]
    congr 1
  obtain ⟨σ3, h3, hg3⟩ := h2.busies (by omega) (by omega) (by omega) s hs (fun i hi => by rw [hown i (by omega)]; exact hb i hi)
  obtain ⟨σ5, h5, hg5⟩ := h3.take (by omega) hs (by omega) (by omega) (by rw [hg3, hown s hs]; exact hfree)
  obtain ⟨σ6, h6, hg6⟩ := h5.clears (by omega) (by omega) 8 (by omega)
  obtain ⟨σ7, h7, hg7⟩ := h6.last (by omega) (by omega)
  have hn : 1 + k + 2 + s + 1 + 8 + 1 = k + s + 13 := by omega
  rw [hn] at h7
  refine ⟨h7.ends (by omega) (by omega) rfl (by simp only; omega), ?_, ?_, fun a b c => ?_⟩
  · rw [h7.run]
    simp [JoinS.got]
  · rw [h7.run]
  · rw [h7.run]
    simp only [hg7, hg6, hg5, hg3, hg2, hg1]
    have hcast : ((k * 4 + s : Nat) : Int) = (k : Int) * 4 + s := by omega
    rw [hcast]
    by_cases e1 : a = 8 ∧ b = (k : Int) * 4 + s ∧ 1 ≤ c ∧ c ≤ 9
    · rw [if_pos e1]
      by_cases e9 : c = 9
      · rw [if_pos ⟨e1.1, e1.2.1, e9⟩]
      · rw [if_neg (by omega), if_pos ⟨e1.1, e1.2.1, e1.2.2.1, by omega⟩]
    · rw [if_neg e1, if_neg (by omega), if_neg (by omega)]

end

end Go.Proofs.YtghkdkdlbkmicaaDoor
