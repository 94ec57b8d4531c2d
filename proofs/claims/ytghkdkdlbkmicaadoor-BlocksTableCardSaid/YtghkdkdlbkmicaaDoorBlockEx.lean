/- Layer 11's law: its example. -/
import Derived.Test.YtghkdkdlbkmicaaDoorBlockLives
namespace Go.Proofs.YtghkdkdlbkmicaaDoor.law11
open Go.RowKit

theorem more_ok (σ : MS) (n : Int) (hn : σ.g 5 0 0 = n) (n1 : 1 ≤ n) (n4 : n < 4) :
    MoreEnds σ 3 ∧ (moreRun σ 3).1.e = 0 ∧ (moreRun σ 3).2.g 5 0 0 = n + 1 ∧ (moreRun σ 3).2.g 7 n 0 = (if σ.g 7 n 0 = blockW 0 true then blockW 0 false else σ.g 7 n 0) := by
  subst hn
  have hx : ¬ 4 ≤ σ.g 5 0 0 := by omega
  have e1 : moreRun σ 1 = (⟨2, σ.g 5 0 0, 0⟩, σ.load 5 0 0) := by simp [moreRun, BlkS.new, BlkS.more, hx]
  have e2 : moreRun σ 2 = (⟨3, σ.g 5 0 0, 0⟩, (σ.load 5 0 0).cas 5 0 0 (σ.g 5 0 0) (σ.g 5 0 0 + 1)) := by
    show (moreRun σ 1).1.more (moreRun σ 1).2 = _
    rw [e1]
    simp [BlkS.more, MS.load]
  have e3 : moreRun σ 3 = (⟨0, σ.g 5 0 0, 0⟩, ((σ.load 5 0 0).cas 5 0 0 (σ.g 5 0 0) (σ.g 5 0 0 + 1)).cas 7 (σ.g 5 0 0) 0 (blockW 0 true) (blockW 0 false)) := by
    show (moreRun σ 2).1.more (moreRun σ 2).2 = _
    rw [e2]
    simp [BlkS.more]
  have hg2 : ∀ a b c, ((σ.load 5 0 0).cas 5 0 0 (σ.g 5 0 0) (σ.g 5 0 0 + 1)).g a b c = if a = 5 ∧ b = 0 ∧ c = 0 then σ.g 5 0 0 + 1 else σ.g a b c := fun a b c => by
    unfold MS.cas
    rw [if_pos ⟨by simp [MS.load], by decide⟩]
    rfl
  have hmay : mayA 7 (σ.g 5 0 0) 0 = true := by
    simp [mayA, roomAt, roomF]
    omega
  refine ⟨⟨by omega, by omega, by rw [e3], fun i h1 h2 => ?_, fun i hi => ?_⟩, by rw [e3], ?_, ?_⟩
  · rcases (show i = 1 ∨ i = 2 by omega) with rfl | rfl
    · rw [e1]
      simp
    · rw [e2]
      simp
  · rcases (show i = 0 ∨ i = 1 ∨ i = 2 by omega) with rfl | rfl | rfl
    · exact .inr (.inl ⟨rfl, n1, by simp only [moreRun]; omega⟩)
    · rw [e1]
      exact .inr (.inr (.inl ⟨rfl, n1, by simp only; omega⟩))
    · rw [e2]
      exact .inr (.inr (.inr ⟨rfl, by simp only; omega, n4⟩))
  · rw [e3]
    simp only
    have h5 : ((σ.load 5 0 0).cas 5 0 0 (σ.g 5 0 0) (σ.g 5 0 0 + 1)).g 5 0 0 = σ.g 5 0 0 + 1 := by rw [hg2, if_pos ⟨rfl, rfl, rfl⟩]
    generalize (σ.load 5 0 0).cas 5 0 0 (σ.g 5 0 0) (σ.g 5 0 0 + 1) = τ at h5
    unfold MS.cas
    split
    · simp only [MS.put]
      rw [if_neg (by omega)]
      exact h5
    · exact h5
  · rw [e3]
    simp only
    have h7 : ((σ.load 5 0 0).cas 5 0 0 (σ.g 5 0 0) (σ.g 5 0 0 + 1)).g 7 (σ.g 5 0 0) 0 = σ.g 7 (σ.g 5 0 0) 0 := by rw [hg2, if_neg (by omega)]
    generalize (σ.load 5 0 0).cas 5 0 0 (σ.g 5 0 0) (σ.g 5 0 0 + 1) = τ at h7
    unfold MS.cas
    rw [h7]
    by_cases hc : σ.g 7 (σ.g 5 0 0) 0 = blockW 0 true
    · rw [if_pos ⟨by rw [hc]; simp, hmay⟩, if_pos hc]
      simp [MS.put]
    · rw [if_neg (fun h => hc (by simpa using h.1)), if_neg hc]
      exact h7

theorem less_ok (σ : MS) (n : Int) (hn : σ.g 5 0 0 = n) (n2 : 2 ≤ n) (n4 : n ≤ 4) (hw : σ.g 7 (n - 1) 0 = blockW 0 false) :
    LessEnds σ 3 ∧ (lessRun σ 3).1.e = 0 ∧ (lessRun σ 3).2.g 5 0 0 = n - 1 ∧ (lessRun σ 3).2.g 7 (n - 1) 0 = blockW 0 true := by
  subst hn
  have hx : ¬ σ.g 5 0 0 ≤ 1 := by omega
  have hmay : mayA 7 (σ.g 5 0 0 - 1) 0 = true := by
    simp [mayA, roomAt, roomF]
    omega
  have e1 : lessRun σ 1 = (⟨2, σ.g 5 0 0, 0⟩, σ.load 5 0 0) := by simp [lessRun, BlkS.new, BlkS.less, hx]
  have e2 : lessRun σ 2 = (⟨3, σ.g 5 0 0, 0⟩, (σ.load 5 0 0).cas 7 (σ.g 5 0 0 - 1) 0 (blockW 0 false) (blockW 0 true)) := by
    show (lessRun σ 1).1.less (lessRun σ 1).2 = _
    rw [e1]
    simp [BlkS.less, MS.load, hw]
  have hg2 : ∀ a b c, ((σ.load 5 0 0).cas 7 (σ.g 5 0 0 - 1) 0 (blockW 0 false) (blockW 0 true)).g a b c = if a = 7 ∧ b = σ.g 5 0 0 - 1 ∧ c = 0 then blockW 0 true else σ.g a b c := fun a b c => by
    unfold MS.cas
    rw [if_pos ⟨by simp [MS.load, hw], hmay⟩]
    rfl
  have h5 : ((σ.load 5 0 0).cas 7 (σ.g 5 0 0 - 1) 0 (blockW 0 false) (blockW 0 true)).g 5 0 0 = σ.g 5 0 0 := by rw [hg2, if_neg (by omega)]
  have h7 : ((σ.load 5 0 0).cas 7 (σ.g 5 0 0 - 1) 0 (blockW 0 false) (blockW 0 true)).g 7 (σ.g 5 0 0 - 1) 0 = blockW 0 true := by rw [hg2, if_pos ⟨rfl, rfl, rfl⟩]
  generalize (σ.load 5 0 0).cas 7 (σ.g 5 0 0 - 1) 0 (blockW 0 false) (blockW 0 true) = τ at e2 h5 h7
  have e3 : lessRun σ 3 = (⟨0, σ.g 5 0 0, 0⟩, τ.cas 5 0 0 (σ.g 5 0 0) (σ.g 5 0 0 - 1)) := by
    show (lessRun σ 2).1.less (lessRun σ 2).2 = _
    rw [e2]
    simp [BlkS.less, h5]
  refine ⟨⟨by omega, by omega, by rw [e3], fun i h1 h2 => ?_, fun i hi => ?_⟩, by rw [e3], ?_, ?_⟩
  · rcases (show i = 1 ∨ i = 2 by omega) with rfl | rfl
    · rw [e1]
      simp
    · rw [e2]
      simp
  · rcases (show i = 0 ∨ i = 1 ∨ i = 2 by omega) with rfl | rfl | rfl
    · exact .inr (.inl ⟨rfl, by simp only [lessRun]; omega, by simp only [lessRun]; omega⟩)
    · rw [e1]
      exact .inr (.inr (.inl ⟨rfl, by simp only; omega, by simp only; omega⟩))
    · rw [e2]
      exact .inr (.inr (.inr ⟨rfl, by simp only; omega, n4⟩))
  · rw [e3]
    simp only
    unfold MS.cas
    rw [if_pos ⟨by simp [h5], by decide⟩]
    simp [MS.put]
  · rw [e3]
    simp only
    unfold MS.cas
    rw [if_pos ⟨by simp [h5], by decide⟩]
    simp only [MS.put]
    rw [if_neg (by omega)]
    exact h7

theorem less_one (σ : MS) (hn : σ.g 5 0 0 = 1) : LessEnds σ 1 ∧ (lessRun σ 1).1.e = 4 ∧ (lessRun σ 1).2.g = σ.g := by
  have e1 : lessRun σ 1 = (⟨0, 1, 4⟩, σ.load 5 0 0) := by simp [lessRun, BlkS.new, BlkS.less, hn]
  refine ⟨⟨by omega, by omega, by rw [e1], fun i h1 h2 => by omega, fun i hi => ?_⟩, by rw [e1], by rw [e1]; rfl⟩
  obtain rfl : i = 0 := by omega
  exact .inr (.inl ⟨rfl, by simp only [lessRun]; omega, by simp only [lessRun]; omega⟩)

set_option maxRecDepth 100000 in
set_option maxHeartbeats 4000000 in
theorem lives_any (w0 w : World) (hf : FieldsAt w0) (hM : Mod w0 w []) :
    Calls Tryd.prog 38 #[] w fun e w' => e = .returned (.bool true) ∧ Mod w0 w' [] := by
  go_enter Tryd.func38, Tryd.ntmps38
  go_wp2_with fail
  refine (table_any w0 w hf hM 1 (by omega)).mono ?_
  rintro e w1 ⟨m, mb, rfl, ⟨σ1, h1, hg1⟩, hM1, l1, l2⟩
  obtain ⟨k1, k2, k3, k4⟩ := more_ok σ1 1 (by rw [hg1]; rfl) (by omega) (by omega)
  rw [hg1] at k4
  clear hM1 hg1
  go_wp2_with fail
  refine (more_alone h1 3 k1).mono ?_
  rintro e w2 ⟨rfl, h2, hM2⟩
  rw [k2]
  have k5 : (moreRun σ1 3).2.g 7 1 0 = blockW 0 false := k4
  generalize (moreRun σ1 3).2 = σ2 at h2 k3 k5
  clear h1 hM2 k1 k2 k4
  go_wp2_with fail
  refine (many_any ⟨σ2, h2, rfl⟩ (by omega)).mono ?_
  rintro e w3 ⟨rfl, ⟨σ3, h3, hg3⟩, hM3⟩
  rw [k3]
  rw [← hg3] at k3 k5
  clear h2 hM3 hg3
  obtain ⟨j1, j2, j3, j4⟩ := less_ok σ3 2 (by rw [k3]; rfl) (by omega) (by omega) k5
  clear k3 k5
  go_wp2_with fail
  refine (less_alone h3 3 j1).mono ?_
  rintro e w4 ⟨rfl, h4, hM4⟩
  rw [j2]
  generalize (lessRun σ3 3).2 = σ4 at h4 j3 j4
  clear h3 hM4 j1 j2
  go_wp2_with fail
  refine (block_at w4 1).mono ?_
  rintro e w5 ⟨rfl, hM5⟩
  have h5 : GSys w0 w5 m mb σ4.g := (GSys.keep0 ⟨σ4, h4, rfl⟩ hM5)
  go_wp2_with fail
  refine (gsys_load h5 7 1 0).mono ?_
  rintro e w6 ⟨rfl, h6, hM6⟩
  rw [show σ4.g 7 1 0 = blockW 0 true from j4]
  clear h4 hM5 h5 hM6
  go_wp2_with fail
  refine (asBlock_any w6 (hf.mod h6.mod (by simp)) (blockW 0 true) (by decide) (by decide)).mono ?_
  rintro e w7 ⟨rfl, n7, rfl⟩
  replace h6 := h6.keep0 ((Mod.refl _ []).drewN n7)
  generalize w6.drewN n7 = w7 at h6 ⊢
  rw [show blkC (blockW 0 true) = true from rfl, show blkN (blockW 0 true) = 0 from rfl]
  go_wp2_with fail
  refine (many_any h6 (by omega)).mono ?_
  rintro e w8 ⟨rfl, ⟨σ8, h8, hg8⟩, hM8⟩
  rw [show σ4.g 5 0 0 = 1 from j3]
  rw [← hg8] at j3 j4
  clear h6 hM8 hg8
  obtain ⟨i1, i2, i3⟩ := less_one σ8 j3
  go_wp2_with fail
  refine (less_alone h8 1 i1).mono ?_
  rintro e w9 ⟨rfl, h9, hM9⟩
  rw [i2]
  rw [← i3] at j3 j4
  generalize (lessRun σ8 1).2 = σ9 at h9 j3 j4
  clear h8 hM9 i1 i2 i3
  obtain ⟨k1, k2, k3, k4⟩ := more_ok σ9 1 j3 (by omega) (by omega)
  rw [if_pos (show σ9.g 7 1 0 = blockW 0 true from j4)] at k4
  go_wp2_with fail
  refine (more_alone h9 3 k1).mono ?_
  rintro e w10 ⟨rfl, h10, hM10⟩
  rw [k2]
  generalize (moreRun σ9 3).2 = σ10 at h10 k3 k4
  clear h9 hM10 k1 k2 j3 j4
  go_wp2_with fail
  refine (block_at w10 1).mono ?_
  rintro e w11 ⟨rfl, hM11⟩
  have h11 : GSys w0 w11 m mb σ10.g := (GSys.keep0 ⟨σ10, h10, rfl⟩ hM11)
  go_wp2_with fail
  refine (gsys_load h11 7 1 0).mono ?_
  rintro e w12 ⟨rfl, h12, hM12⟩
  rw [show σ10.g 7 1 0 = blockW 0 false from k4]
  clear h10 hM11 h11 hM12 k3 k4
  go_wp2_with fail
  refine (asBlock_any w12 (hf.mod h12.mod (by simp)) (blockW 0 false) (by decide) (by decide)).mono ?_
  rintro e w13 ⟨rfl, n13, rfl⟩
  replace h12 := h12.keep0 ((Mod.refl _ []).drewN n13)
  generalize w12.drewN n13 = w13 at h12 ⊢
  rw [show blkC (blockW 0 false) = false from rfl, show blkN (blockW 0 false) = 0 from rfl]
  go_wp2_with fail
  go_ret
  exact ⟨rfl, h12.mod⟩

end Go.Proofs.YtghkdkdlbkmicaaDoor.law11
