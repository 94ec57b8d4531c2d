/- Joins and leaves of one alone: where the table is full, and what a leave makes. -/
import Derived.Test.YtghkdkdlbkmicaaDoorTabLaw
namespace Go.Proofs.YtghkdkdlbkmicaaDoor
open Go.RowKit

/-- n steps of a Leave by one alone are behind. -/
structure LAt (t : Int) (σ0 : MS) (n : Nat) (j : LeaveS) (σ : MS) : Prop where
  run : leaveRun t σ0 n = (j, σ)
  on : ∀ i, 1 ≤ i → i < n → (leaveRun t σ0 i).1.line ≠ 0
  ok : ∀ i, i < n → (leaveRun t σ0 i).1.Ok
theorem LAt.zero (t : Int) (σ0 : MS) : LAt t σ0 0 (LeaveS.new t) σ0 := ⟨rfl, fun i h1 h2 => by omega, fun i h => by omega⟩
theorem LAt.step {t : Int} {σ0 : MS} {n : Nat} {j j' : LeaveS} {σ σ' : MS} (h : LAt t σ0 n j σ) (hl : j.line ≠ 0) (hok : j.Ok) (hs : j.step σ = (j', σ')) : LAt t σ0 (n + 1) j' σ' := by
  refine ⟨?_, fun i h1 h2 => ?_, fun i hi => ?_⟩
  · show (leaveRun t σ0 n).1.step (leaveRun t σ0 n).2 = _
    rw [h.run]
    exact hs
  · rcases Nat.lt_or_ge i n with h3 | h3
    · exact h.on i h1 h3
    · obtain rfl : i = n := by omega
      rw [h.run]
      exact hl
  · rcases Nat.lt_or_ge i n with h3 | h3
    · exact h.ok i h3
    · obtain rfl : i = n := by omega
      rw [h.run]
      exact hok
theorem LAt.ends {t : Int} {σ0 : MS} {n : Nat} {j : LeaveS} {σ : MS} (h : LAt t σ0 n j σ) (h1 : 1 ≤ n) (h40 : n ≤ 40) (hl : j.line = 0) : LeaveEnds t σ0 n :=
  ⟨h1, h40, by rw [h.run]; exact hl, h.on, h.ok⟩

section
variable {o : Int} {σ0 σ : MS} {n nb : Nat} {cnt : Nat → Nat} {shut : Nat → Bool} {own : Nat → Int}

/-- One alone finds the table full. -/
theorem full_alone (ht : Tab σ0.g nb cnt shut own) (o0 : 0 ≤ o) (hp : ∀ i, i < nb → Passed cnt shut i) :
    JoinEnds o σ0 (nb + 1) ∧ (joinRun o σ0 (nb + 1)).1.got = -1 ∧ (joinRun o σ0 (nb + 1)).1.e = 5 ∧ (joinRun o σ0 (nb + 1)).2.g = σ0.g := by
  have h4 := ht.nb4
  rcases Nat.eq_zero_or_pos nb with hz | hz
  · subst hz
    have hb : σ0.g 5 0 0 = 0 := by rw [ht.blocks]; rfl
    have h1 : JAt o σ0 1 ⟨0, 0, 0, 5, o + 1, 0, 0, -1⟩ (σ0.load 5 0 0) :=
      (JAt.zero o σ0).step (by simp [JoinS.new]) (.inr (.inl ⟨rfl, by rw [hb]; omega⟩)) (by simp [JoinS.step, JoinS.new, hb])
    refine ⟨h1.ends (by omega) (by omega) rfl (by simp only; omega), ?_, ?_, ?_⟩
    · rw [h1.run]
      simp [JoinS.got]
    · rw [h1.run]
    · rw [h1.run]
      rfl
  · obtain ⟨k, rfl⟩ : ∃ k, nb = k + 1 := ⟨nb - 1, by omega⟩
    obtain ⟨σ1, wd1, h1, hg1⟩ := JAt.passes (o := o) ht k (by omega) (fun i hi => hp i (by omega))
    obtain ⟨σ2, wd2, h2, hg2⟩ := h1.full (ht.same hg1) rfl (hp k (by omega))
    rw [show 1 + k + 1 = k + 1 + 1 by omega] at h2
    refine ⟨h2.ends (by omega) (by omega) rfl (by simp only; omega), ?_, ?_, ?_⟩
    · rw [h2.run]
      simp [JoinS.got]
    · rw [h2.run]
    · rw [h2.run, ← hg1, ← hg2]

/-- Nobody owns it: a Leave is over at once. -/
theorem leave_none (t : Nat) (t1 : t < 16) (h0 : σ0.g 8 t 0 = 0) :
    LeaveEnds t σ0 1 ∧ (leaveRun t σ0 1).1.e = 6 ∧ (leaveRun t σ0 1).2.g = σ0.g := by
  have h1 : LAt t σ0 1 ⟨0, (t : Int) / 4, 0, 6, t⟩ (σ0.load 8 t 0) :=
    (LAt.zero t σ0).step (by simp [LeaveS.new]) ⟨by simp only [LeaveS.new]; omega, by simp [LeaveS.new]⟩ (by simp [LeaveS.step, LeaveS.new, h0])
  refine ⟨h1.ends (by omega) (by omega) rfl, ?_, ?_⟩
  · rw [h1.run]
  · rw [h1.run]
    rfl

/-- One alone leaves. -/
theorem leave_alone (ht : Tab σ0.g nb cnt shut own) (t : Nat) (t1 : t < 16) (h0 : own t ≠ 0) (hin : σ0.g 8 t 1 = 0) (hc : 1 ≤ cnt (t / 4)) :
    LeaveEnds t σ0 6 ∧ (leaveRun t σ0 6).1.e = 0 ∧
    ∀ a b c, (leaveRun t σ0 6).2.g a b c = if a = 7 ∧ b = (t / 4 : Nat) ∧ c = 0 then blockW (cnt (t / 4) - 1 : Nat) (shut (t / 4)) else if a = 8 ∧ b = t ∧ (c = 0 ∨ c = 6) then 0 else σ0.g a b c := by
  have hB : (t : Int) / 4 = ((t / 4 : Nat) : Int) := by omega
  have hown := ht.owner t t1
  have hne : ¬ σ0.g 8 t 0 = 0 := by rw [hown]; exact h0
  have hw := ht.word (t / 4) (by omega)
  have hsm := ht.small (t / 4) (by omega)
  have hn : blkN (σ0.g 7 (t / 4 : Nat) 0) = cnt (t / 4) := by rw [hw]; exact blkN_blockW (by omega) (by omega) _
  have hcc : blkC (σ0.g 7 (t / 4 : Nat) 0) = shut (t / 4) := by rw [hw]; exact blkC_blockW (by omega) (by omega) _
  have hr := blockW_range (n := (cnt (t / 4) : Int)) (by omega) (by omega) (shut (t / 4))
  rw [← hw] at hr
  have hmayb : mayA 7 (t / 4 : Nat) 0 = true := by
    simp [mayA, roomAt, roomF]
    omega
  have hmay6 : mayA 8 t 6 = true := by
    simp [mayA, roomAt, roomF]
    omega
  have hmay0 : mayA 8 t 0 = true := by
    simp [mayA, roomAt, roomF]
    omega
  have htr : (0 : Int) ≤ t ∧ (t : Int) < 16 := by omega
  generalize hBB : (t / 4 : Nat) = B at *
  have hg0 : ∃ σ1 σ2, LAt t σ0 2 ⟨3, B, 0, 0, t⟩ σ2 ∧ σ1 = σ2.g ∧ σ1 = σ0.g := by
    refine ⟨_, (σ0.load 8 t 0).load 8 t 1, ?_, rfl, rfl⟩
    have h1 : LAt t σ0 1 ⟨2, B, 0, 0, t⟩ (σ0.load 8 t 0) :=
      (LAt.zero t σ0).step (by simp [LeaveS.new]) ⟨by simp only [LeaveS.new]; omega, by simp [LeaveS.new]⟩ (by simp [LeaveS.step, LeaveS.new, hne, hB])
    exact h1.step (by simp) ⟨htr, by simp⟩ (by simp [LeaveS.step, MS.load, hin])
  obtain ⟨_, σ2, h2, rfl, hg2⟩ := hg0
  have hg3 : ∃ σ3, LAt t σ0 3 ⟨4, B, 0, 0, t⟩ σ3 ∧ ∀ a b c, σ3.g a b c = if a = 8 ∧ b = t ∧ c = 6 then 0 else σ0.g a b c := by
    refine ⟨σ2.store 8 t 6 0, h2.step (by simp) ⟨htr, by simp⟩ (by simp [LeaveS.step]), fun a b c => ?_⟩
    unfold MS.store
    rw [if_pos hmay6]
    simp only [MS.put, hg2]
  obtain ⟨σ3, h3, hg3⟩ := hg3
  have hg4 : ∃ σ4, LAt t σ0 4 ⟨5, B, 0, 0, t⟩ σ4 ∧ ∀ a b c, σ4.g a b c = if a = 8 ∧ b = t ∧ (c = 0 ∨ c = 6) then 0 else σ0.g a b c := by
    refine ⟨σ3.store 8 t 0 0, h3.step (by simp) ⟨htr, by simp⟩ (by simp [LeaveS.step]), fun a b c => ?_⟩
    unfold MS.store
    rw [if_pos hmay0]
    simp only [MS.put, hg3]
    by_cases e1 : a = 8 ∧ b = t ∧ c = 0
    · rw [if_pos e1, if_pos ⟨e1.1, e1.2.1, .inl e1.2.2⟩]
    · rw [if_neg e1]
      by_cases e2 : a = 8 ∧ b = t ∧ c = 6
      · rw [if_pos e2, if_pos ⟨e2.1, e2.2.1, .inr e2.2.2⟩]
      · rw [if_neg e2, if_neg (by omega)]
  obtain ⟨σ4, h4, hg4⟩ := hg4
  have hw4 : σ4.g 7 B 0 = σ0.g 7 B 0 := by rw [hg4, if_neg (by omega)]
  have h5 : LAt t σ0 5 ⟨6, B, σ0.g 7 B 0, 0, t⟩ (σ4.load 7 B 0) := by
    refine h4.step (by simp) ⟨htr, by simp⟩ ?_
    simp [LeaveS.step, hw4]
  have h6 : LAt t σ0 6 ⟨0, B, σ0.g 7 B 0, 0, t⟩ ((σ4.load 7 B 0).cas 7 B 0 (σ0.g 7 B 0) (blockW (blkN (σ0.g 7 B 0) - 1) (blkC (σ0.g 7 B 0)))) := by
    refine h5.step (by simp) ⟨htr, .inr (.inr (.inr (.inr (.inr (.inr ⟨rfl, hr.1, hr.2, ?_, hmayb⟩)))))⟩ ?_
    · simp only
      rw [hn]
      omega
    · simp [LeaveS.step, MS.load, hw4]
  refine ⟨h6.ends (by omega) (by omega) rfl, ?_, fun a b c => ?_⟩
  · rw [h6.run]
  · rw [h6.run]
    simp only
    unfold MS.cas
    rw [if_pos ⟨by simp [MS.load, hw4], hmayb⟩]
    simp only [MS.put, MS.load, hn, hcc, hg4]
    rw [show (cnt B : Int) - 1 = ((cnt B - 1 : Nat) : Int) by omega]

end

end Go.Proofs.YtghkdkdlbkmicaaDoor
