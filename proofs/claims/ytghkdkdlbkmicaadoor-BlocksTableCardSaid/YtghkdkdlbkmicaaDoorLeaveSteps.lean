/- A step of a Leave, and how it ended. -/
import Derived.Test.YtghkdkdlbkmicaaDoorLeaves
namespace Go.Proofs.YtghkdkdlbkmicaaDoor
open Go.RowKit

theorem leaveOver_any (w : World) (b : Nat) (j : LeaveS) (h : Has w b j.obj) :
    Calls Tryd.prog 99 #[.pointer (some ⟨b, 0, none⟩)] w fun e w' => e = .returned (.bool (j.line == 0)) ∧ w = w' := by
  unfold LeaveS.obj at h
  go_enter Tryd.func99, Tryd.ntmps99
  go_wp2_with fail
  refine (tover_any w b j.line _ _ h rfl).mono ?_
  rintro e w1 ⟨rfl, rfl⟩
  go_wp2
  go_ret
  exact ⟨rfl, rfl⟩

@[go_sem] theorem index_leave1 (a b c d e f g : Value) (w : World) : (Instr.index 163 (.agg #[a, b, c, d, e, f, g]) (.int .i64 1)).run Tryd.prog w = .ok b w := by kernel_rfl
@[go_sem] theorem index_leave2 (a b c d e f g : Value) (w : World) : (Instr.index 163 (.agg #[a, b, c, d, e, f, g]) (.int .i64 2)).run Tryd.prog w = .ok c w := by kernel_rfl
@[go_sem] theorem index_leave3 (a b c d e f g : Value) (w : World) : (Instr.index 163 (.agg #[a, b, c, d, e, f, g]) (.int .i64 3)).run Tryd.prog w = .ok d w := by kernel_rfl
@[go_sem] theorem index_leave4 (a b c d e f g : Value) (w : World) : (Instr.index 163 (.agg #[a, b, c, d, e, f, g]) (.int .i64 4)).run Tryd.prog w = .ok e w := by kernel_rfl
@[go_sem] theorem index_leave5 (a b c d e f g : Value) (w : World) : (Instr.index 163 (.agg #[a, b, c, d, e, f, g]) (.int .i64 5)).run Tryd.prog w = .ok f w := by kernel_rfl
@[go_sem] theorem index_leave6 (a b c d e f g : Value) (w : World) : (Instr.index 163 (.agg #[a, b, c, d, e, f, g]) (.int .i64 6)).run Tryd.prog w = .ok g w := by kernel_rfl

/-- What a Leave may be at, alone. -/
def LeaveS.Ok (j : LeaveS) : Prop :=
  (0 ≤ j.thread ∧ j.thread < 16) ∧ (j.line = 0 ∨ j.line = 1 ∨ j.line = 2 ∨ j.line = 3 ∨ j.line = 4 ∨ j.line = 5 ∨
  (j.line = 6 ∧ 0 ≤ j.word ∧ j.word < 18446744073709551616 ∧ 1 ≤ blkN j.word ∧ mayA 7 j.block 0 = true))

set_option maxRecDepth 100000 in
set_option maxHeartbeats 2000000 in
theorem leaveStep_any (w : World) (hf : FieldsAt w) (b m mb : Nat) (σ : MS) (j : LeaveS) (hj : j.Ok) (hb : Has w b j.obj) (hm : MemAt w m mb σ) (n1 : b ≠ m) (n2 : b ≠ mb) (n3 : 0 ≠ m) (n4 : 0 ≠ b) :
    Calls Tryd.prog 55 #[.pointer (some ⟨b, 0, none⟩), .pointer (some ⟨m, 0, none⟩)] w fun e w' =>
      e = .returned (.bool ((j.step σ).1.line == 0)) ∧ Mod w w' [m, mb, b] ∧ MemAt w' m mb (j.step σ).2 ∧ Has w' b (j.step σ).1.obj := by
  obtain ⟨j', σ', hs⟩ : ∃ j' σ', j.step σ = (j', σ') := ⟨_, _, rfl⟩
  rw [hs]
  have c0 := hb.cell 0
  unfold LeaveS.obj at c0
  simp only [getRules] at c0
  obtain ⟨⟨t0, t1⟩, hj⟩ := hj
  rcases hj with h0 | h0 | h0 | h0 | h0 | h0 | ⟨h0, h1, h2, h3, h4⟩
  · have es : j.step σ = (j, σ) := by simp [LeaveS.step, h0]
    rw [es] at hs
    obtain ⟨rfl, rfl⟩ := Prod.mk.inj hs
    have hzb : (j.line == 0) = true := by simp [h0]
    clear hs es
    go_enter Tryd.func55, Tryd.ntmps55
    go_wp2_with fail
    refine (leaveOver_any w b j hb).mono ?_
    rintro e w1 ⟨rfl, rfl⟩
    rw [hzb]
    go_wp2_with fail
    refine (leaveOver_any w b j hb).mono ?_
    rintro e w1 ⟨rfl, rfl⟩
    go_wp2_with fail
    go_ret
    exact ⟨by rw [hzb]; rfl, Mod.refl _ _, hm, hb⟩
  · have hL := leaveOwned w b m mb σ j j' σ' hs h0 hb hm n1 n2
    have HL := Lib.hid hL
    have hzb : (j.line == 0) = false := by simp [h0]
    rw [h0] at c0
    clear hL hs
    go_enter Tryd.func55, Tryd.ntmps55
    go_wp2_with fail
    refine (leaveOver_any w b j hb).mono ?_
    rintro e w1 ⟨rfl, rfl⟩
    rw [hzb]
    go_wp2_with fail
    refine HL.out.mono ?_
    rintro e w2 ⟨rfl, hM, hm2, hb2⟩
    go_wp2_with fail
    refine (leaveOver_any w2 b j' hb2).mono ?_
    rintro e w1 ⟨rfl, rfl⟩
    go_wp2_with fail
    go_ret
    exact ⟨rfl, hM, hm2, hb2⟩
  · have hL := leaveInside w b m mb σ j j' σ' hs h0 hb hm n1 n2
    have HL := Lib.hid hL
    have hzb : (j.line == 0) = false := by simp [h0]
    rw [h0] at c0
    clear hL hs
    go_enter Tryd.func55, Tryd.ntmps55
    go_wp2_with fail
    refine (leaveOver_any w b j hb).mono ?_
    rintro e w1 ⟨rfl, rfl⟩
    rw [hzb]
    go_wp2_with fail
    refine HL.out.mono ?_
    rintro e w2 ⟨rfl, hM, hm2, hb2⟩
    go_wp2_with fail
    refine (leaveOver_any w2 b j' hb2).mono ?_
    rintro e w1 ⟨rfl, rfl⟩
    go_wp2_with fail
    go_ret
    exact ⟨rfl, hM, hm2, hb2⟩
  · have hL := leaveUnflag w b m mb σ j j' σ' hs h0 t0 t1 hb hm n1 n2
    have HL := Lib.hid hL
    have hzb : (j.line == 0) = false := by simp [h0]
    rw [h0] at c0
    clear hL hs
    go_enter Tryd.func55, Tryd.ntmps55
    go_wp2_with fail
    refine (leaveOver_any w b j hb).mono ?_
    rintro e w1 ⟨rfl, rfl⟩
    rw [hzb]
    go_wp2_with fail
    refine HL.out.mono ?_
    rintro e w2 ⟨rfl, hM, hm2, hb2⟩
    go_wp2_with fail
    refine (leaveOver_any w2 b j' hb2).mono ?_
    rintro e w1 ⟨rfl, rfl⟩
    go_wp2_with fail
    go_ret
    exact ⟨rfl, hM, hm2, hb2⟩
  · have hL := leaveDisown w b m mb σ j j' σ' hs h0 t0 t1 hb hm n1 n2
    have HL := Lib.hid hL
    have hzb : (j.line == 0) = false := by simp [h0]
    rw [h0] at c0
    clear hL hs
    go_enter Tryd.func55, Tryd.ntmps55
    go_wp2_with fail
    refine (leaveOver_any w b j hb).mono ?_
    rintro e w1 ⟨rfl, rfl⟩
    rw [hzb]
    go_wp2_with fail
    refine HL.out.mono ?_
    rintro e w2 ⟨rfl, hM, hm2, hb2⟩
    go_wp2_with fail
    refine (leaveOver_any w2 b j' hb2).mono ?_
    rintro e w1 ⟨rfl, rfl⟩
    go_wp2_with fail
    go_ret
    exact ⟨rfl, hM, hm2, hb2⟩
  · have hL := leaveLook w hf b m mb σ j j' σ' hs h0 hb hm n1 n2 n3 n4
    have HL := Lib.hid hL
    have hzb : (j.line == 0) = false := by simp [h0]
    rw [h0] at c0
    clear hL hs
    go_enter Tryd.func55, Tryd.ntmps55
    go_wp2_with fail
    refine (leaveOver_any w b j hb).mono ?_
    rintro e w1 ⟨rfl, rfl⟩
    rw [hzb]
    go_wp2_with fail
    refine HL.out.mono ?_
    rintro e w2 ⟨rfl, hM, hm2, hb2⟩
    go_wp2_with fail
    refine (leaveOver_any w2 b j' hb2).mono ?_
    rintro e w1 ⟨rfl, rfl⟩
    go_wp2_with fail
    go_ret
    exact ⟨rfl, hM, hm2, hb2⟩
  · have hL := leaveFewer w hf b m mb σ j j' σ' hs h0 h1 (Lib.hid h2) h3 h4 hb hm n1 n2 n3 n4
    have HL := Lib.hid hL
    have hzb : (j.line == 0) = false := by simp [h0]
    rw [h0] at c0
    clear hL hs
    go_enter Tryd.func55, Tryd.ntmps55
    go_wp2_with fail
    refine (leaveOver_any w b j hb).mono ?_
    rintro e w1 ⟨rfl, rfl⟩
    rw [hzb]
    go_wp2_with fail
    refine HL.out.mono ?_
    rintro e w2 ⟨rfl, hM, hm2, hb2⟩
    go_wp2_with fail
    refine (leaveOver_any w2 b j' hb2).mono ?_
    rintro e w1 ⟨rfl, rfl⟩
    go_wp2_with fail
    go_ret
    exact ⟨rfl, hM, hm2, hb2⟩

set_option maxRecDepth 100000 in
theorem newLeave_any (w : World) (t : Int) (h0 : 0 ≤ t) (h1 : t < 16) : Calls Tryd.prog 54 #[.int .i64 t] w fun e w' => e = .returned (.pointer (some ⟨w.heap.size, 0, none⟩)) ∧ Mod w w' [] ∧ Has w' w.heap.size (LeaveS.new t).obj := by
  have hq : t.tdiv 4 = t / 4 := Int.tdiv_eq_ediv_of_nonneg h0
  go_enter Tryd.func54, Tryd.ntmps54
  go_wp2_with fail
  go_ret
  first | exact ⟨rfl, (Mod.refl _ _).alloc _, Has.new _ _⟩ | exact ⟨rfl, ((Mod.refl _ _).alloc _).setCell (.inr (Nat.le_refl _)) _, (Has.new _ _).set_same 1 _⟩

theorem leaveGot_any (w : World) (b : Nat) (j : LeaveS) (h : Has w b j.obj) :
    Calls Tryd.prog 56 #[.pointer (some ⟨b, 0, none⟩)] w fun e w' => e = .returned (.int .i64 j.e) ∧ w = w' := by
  unfold LeaveS.obj at h
  have c_h_3 := h.cell 3; simp only [getRules] at c_h_3
  go_enter Tryd.func56, Tryd.ntmps56
  go_wp2
  go_ret
  exact ⟨rfl, rfl⟩

end Go.Proofs.YtghkdkdlbkmicaaDoor
