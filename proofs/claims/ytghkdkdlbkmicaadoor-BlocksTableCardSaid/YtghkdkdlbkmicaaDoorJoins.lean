/- A step of a Join, and what it got. -/
import Derived.Test.YtghkdkdlbkmicaaDoorTables
namespace Go.Proofs.YtghkdkdlbkmicaaDoor
open Go.RowKit

theorem joinOver_any (w : World) (b : Nat) (j : JoinS) (h : Has w b j.obj) :
    Calls Tryd.prog 90 #[.pointer (some ⟨b, 0, none⟩)] w fun e w' => e = .returned (.bool (j.line == 0)) ∧ w = w' := by
  unfold JoinS.obj at h
  go_enter Tryd.func90, Tryd.ntmps90
  go_wp2_with fail
  refine (tover_any w b j.line _ _ h rfl).mono ?_
  rintro e w1 ⟨rfl, rfl⟩
  go_wp2
  go_ret
  exact ⟨rfl, rfl⟩

@[go_sem] theorem index_join1 (a b c d e f g h : Value) (w : World) : (Instr.index 159 (.agg #[a, b, c, d, e, f, g, h]) (.int .i64 1)).run Tryd.prog w = .ok b w := by kernel_rfl
@[go_sem] theorem index_join2 (a b c d e f g h : Value) (w : World) : (Instr.index 159 (.agg #[a, b, c, d, e, f, g, h]) (.int .i64 2)).run Tryd.prog w = .ok c w := by kernel_rfl
@[go_sem] theorem index_join3 (a b c d e f g h : Value) (w : World) : (Instr.index 159 (.agg #[a, b, c, d, e, f, g, h]) (.int .i64 3)).run Tryd.prog w = .ok d w := by kernel_rfl
@[go_sem] theorem index_join4 (a b c d e f g h : Value) (w : World) : (Instr.index 159 (.agg #[a, b, c, d, e, f, g, h]) (.int .i64 4)).run Tryd.prog w = .ok e w := by kernel_rfl
@[go_sem] theorem index_join5 (a b c d e f g h : Value) (w : World) : (Instr.index 159 (.agg #[a, b, c, d, e, f, g, h]) (.int .i64 5)).run Tryd.prog w = .ok f w := by kernel_rfl
@[go_sem] theorem index_join6 (a b c d e f g h : Value) (w : World) : (Instr.index 159 (.agg #[a, b, c, d, e, f, g, h]) (.int .i64 6)).run Tryd.prog w = .ok g w := by kernel_rfl
@[go_sem] theorem index_join7 (a b c d e f g h : Value) (w : World) : (Instr.index 159 (.agg #[a, b, c, d, e, f, g, h]) (.int .i64 7)).run Tryd.prog w = .ok h w := by kernel_rfl

/-- What a Join may be at, alone. -/
def JoinS.Ok (j : JoinS) (σ : MS) : Prop :=
  j.line = 0 ∨ (j.line = 1 ∧ σ.g 5 0 0 ≤ 4) ∨ (j.line = 2 ∧ 0 ≤ j.block ∧ j.block < 100) ∨
  (j.line = 3 ∧ 0 ≤ j.word ∧ j.word < 18446744073709551616 ∧ blkN j.word < 4 ∧ mayA 7 j.block 0 = true) ∨
  (j.line = 4 ∧ 0 ≤ j.block ∧ j.block < 4 ∧ 0 ≤ j.k ∧ j.k < 4 ∧ 0 ≤ j.owner ∧ j.owner < 18446744073709551616) ∨
  (j.line = 5 ∧ 0 ≤ j.thread ∧ j.thread < 16 ∧ 0 ≤ j.k ∧ j.k < 10) ∨
  j.line = 6 ∨ (j.line = 7 ∧ 0 ≤ j.word ∧ j.word < 18446744073709551616 ∧ 1 ≤ blkN j.word ∧ mayA 7 j.block 0 = true)

set_option maxRecDepth 100000 in
set_option maxHeartbeats 2000000 in
theorem joinStep_any (w : World) (hf : FieldsAt w) (b m mb : Nat) (σ : MS) (j : JoinS) (hj : j.Ok σ) (hb : Has w b j.obj) (hm : MemAt w m mb σ) (n1 : b ≠ m) (n2 : b ≠ mb) (n3 : 0 ≠ m) (n4 : 0 ≠ b) :
    Calls Tryd.prog 52 #[.pointer (some ⟨b, 0, none⟩), .pointer (some ⟨m, 0, none⟩)] w fun e w' =>
      e = .returned (.bool ((j.step σ).1.line == 0)) ∧ Mod w w' [m, mb, b] ∧ MemAt w' m mb (j.step σ).2 ∧ Has w' b (j.step σ).1.obj := by
  obtain ⟨j', σ', hs⟩ : ∃ j' σ', j.step σ = (j', σ') := ⟨_, _, rfl⟩
  rw [hs]
  have c0 := hb.cell 0
  unfold JoinS.obj at c0
  simp only [getRules] at c0
  rcases hj with h0 | ⟨h0, h1⟩ | ⟨h0, h1, h2⟩ | ⟨h0, h1, h2, h3, h4⟩ | ⟨h0, h1, h2, h3, h4, h5, h6⟩ | ⟨h0, h1, h2, h3, h4⟩ | h0 | ⟨h0, h1, h2, h3, h4⟩
  · have es : j.step σ = (j, σ) := by simp [JoinS.step, h0]
    rw [es] at hs
    obtain ⟨rfl, rfl⟩ := Prod.mk.inj hs
    have hzb : (j.line == 0) = true := by simp [h0]
    clear hs es
    go_enter Tryd.func52, Tryd.ntmps52
    go_wp2_with fail
    refine (joinOver_any w b j hb).mono ?_
    rintro e w1 ⟨rfl, rfl⟩
    rw [hzb]
    go_wp2_with fail
    refine (joinOver_any w b j hb).mono ?_
    rintro e w1 ⟨rfl, rfl⟩
    go_wp2_with fail
    go_ret
    exact ⟨by rw [hzb]; rfl, Mod.refl _ _, hm, hb⟩
  · have hL := joinCount w b m mb σ j j' σ' hs h0 h1 hb hm n1 n2
    have HL := Lib.hid hL
    have hzb : (j.line == 0) = false := by simp [h0]
    rw [h0] at c0
    clear hL hs
    go_enter Tryd.func52, Tryd.ntmps52
    go_wp2_with fail
    refine (joinOver_any w b j hb).mono ?_
    rintro e w1 ⟨rfl, rfl⟩
    rw [hzb]
    go_wp2_with fail
    refine HL.out.mono ?_
    rintro e w2 ⟨rfl, hM, hm2, hb2⟩
    go_wp2_with fail
    refine (joinOver_any w2 b j' hb2).mono ?_
    rintro e w1 ⟨rfl, rfl⟩
    go_wp2_with fail
    go_ret
    exact ⟨rfl, hM, hm2, hb2⟩
  · have hL := joinLook w hf b m mb σ j j' σ' hs h0 h1 h2 hb hm n1 n2 n3 n4
    have HL := Lib.hid hL
    have hzb : (j.line == 0) = false := by simp [h0]
    rw [h0] at c0
    clear hL hs
    go_enter Tryd.func52, Tryd.ntmps52
    go_wp2_with fail
    refine (joinOver_any w b j hb).mono ?_
    rintro e w1 ⟨rfl, rfl⟩
    rw [hzb]
    go_wp2_with fail
    refine HL.out.mono ?_
    rintro e w2 ⟨rfl, hM, hm2, hb2⟩
    go_wp2_with fail
    refine (joinOver_any w2 b j' hb2).mono ?_
    rintro e w1 ⟨rfl, rfl⟩
    go_wp2_with fail
    go_ret
    exact ⟨rfl, hM, hm2, hb2⟩
  · have hL := joinMore w hf b m mb σ j j' σ' hs h0 h1 (Lib.hid h2) h3 h4 hb hm n1 n2 n3 n4
    have HL := Lib.hid hL
    have hzb : (j.line == 0) = false := by simp [h0]
    rw [h0] at c0
    clear hL hs
    go_enter Tryd.func52, Tryd.ntmps52
    go_wp2_with fail
    refine (joinOver_any w b j hb).mono ?_
    rintro e w1 ⟨rfl, rfl⟩
    rw [hzb]
    go_wp2_with fail
    refine HL.out.mono ?_
    rintro e w2 ⟨rfl, hM, hm2, hb2⟩
    go_wp2_with fail
    refine (joinOver_any w2 b j' hb2).mono ?_
    rintro e w1 ⟨rfl, rfl⟩
    go_wp2_with fail
    go_ret
    exact ⟨rfl, hM, hm2, hb2⟩
  · have hL := joinOwn w b m mb σ j j' σ' hs h0 h1 h2 h3 h4 h5 (Lib.hid h6) hb hm n1 n2
    have HL := Lib.hid hL
    have hzb : (j.line == 0) = false := by simp [h0]
    rw [h0] at c0
    clear hL hs
    go_enter Tryd.func52, Tryd.ntmps52
    go_wp2_with fail
    refine (joinOver_any w b j hb).mono ?_
    rintro e w1 ⟨rfl, rfl⟩
    rw [hzb]
    go_wp2_with fail
    refine HL.out.mono ?_
    rintro e w2 ⟨rfl, hM, hm2, hb2⟩
    go_wp2_with fail
    refine (joinOver_any w2 b j' hb2).mono ?_
    rintro e w1 ⟨rfl, rfl⟩
    go_wp2_with fail
    go_ret
    exact ⟨rfl, hM, hm2, hb2⟩
  · have hL := joinClear w b m mb σ j j' σ' hs h0 h1 h2 h3 h4 hb hm n1 n2
    have HL := Lib.hid hL
    have hzb : (j.line == 0) = false := by simp [h0]
    rw [h0] at c0
    clear hL hs
    go_enter Tryd.func52, Tryd.ntmps52
    go_wp2_with fail
    refine (joinOver_any w b j hb).mono ?_
    rintro e w1 ⟨rfl, rfl⟩
    rw [hzb]
    go_wp2_with fail
    refine HL.out.mono ?_
    rintro e w2 ⟨rfl, hM, hm2, hb2⟩
    go_wp2_with fail
    refine (joinOver_any w2 b j' hb2).mono ?_
    rintro e w1 ⟨rfl, rfl⟩
    go_wp2_with fail
    go_ret
    exact ⟨rfl, hM, hm2, hb2⟩
  · have hL := joinBack w hf b m mb σ j j' σ' hs h0 hb hm n1 n2 n3 n4
    have HL := Lib.hid hL
    have hzb : (j.line == 0) = false := by simp [h0]
    rw [h0] at c0
    clear hL hs
    go_enter Tryd.func52, Tryd.ntmps52
    go_wp2_with fail
    refine (joinOver_any w b j hb).mono ?_
    rintro e w1 ⟨rfl, rfl⟩
    rw [hzb]
    go_wp2_with fail
    refine HL.out.mono ?_
    rintro e w2 ⟨rfl, hM, hm2, hb2⟩
    go_wp2_with fail
    refine (joinOver_any w2 b j' hb2).mono ?_
    rintro e w1 ⟨rfl, rfl⟩
    go_wp2_with fail
    go_ret
    exact ⟨rfl, hM, hm2, hb2⟩
  · have hL := joinUndo w hf b m mb σ j j' σ' hs h0 h1 (Lib.hid h2) h3 h4 hb hm n1 n2 n3 n4
    have HL := Lib.hid hL
    have hzb : (j.line == 0) = false := by simp [h0]
    rw [h0] at c0
    clear hL hs
    go_enter Tryd.func52, Tryd.ntmps52
    go_wp2_with fail
    refine (joinOver_any w b j hb).mono ?_
    rintro e w1 ⟨rfl, rfl⟩
    rw [hzb]
    go_wp2_with fail
    refine HL.out.mono ?_
    rintro e w2 ⟨rfl, hM, hm2, hb2⟩
    go_wp2_with fail
    refine (joinOver_any w2 b j' hb2).mono ?_
    rintro e w1 ⟨rfl, rfl⟩
    go_wp2_with fail
    go_ret
    exact ⟨rfl, hM, hm2, hb2⟩

theorem newJoin_any (w : World) (o : Int) (h0 : 0 ≤ o) (h1 : o < 1000000) : Calls Tryd.prog 51 #[.int .i64 o] w fun e w' => e = .returned (.pointer (some ⟨w.heap.size, 0, none⟩)) ∧ w.alloc (JoinS.new o).obj = w' := by
  have hw : IntKind.u64.wrap o = o := by rw [wrap_u64_eq]; omega
  have hw2 : IntKind.u64.wrap (o + 1) = o + 1 := by rw [wrap_u64_eq]; omega
  go_enter Tryd.func51, Tryd.ntmps51
  go_wp2_with fail
  go_ret
  exact ⟨rfl, rfl⟩

/-- What an over Join got. -/
def JoinS.got (j : JoinS) : Int := if j.e = 0 then j.thread else -1
theorem joinGot_any (w : World) (b : Nat) (j : JoinS) (hj : j.line = 0) (ho : j.owner ≠ 0) (h : Has w b j.obj) :
    Calls Tryd.prog 53 #[.pointer (some ⟨b, 0, none⟩)] w fun e w' => e = .returned (.tuple #[.int .i64 j.got, .int .i64 j.e]) ∧ Mod w w' [] := by
  obtain ⟨line, block, word, e, owner, blocks, k, t⟩ := j
  subst hj
  simp only at ho
  have h' := h
  unfold JoinS.obj at h
  have c_h_0 := h.cell 0; have c_h_3 := h.cell 3; have c_h_4 := h.cell 4; have c_h_7 := h.cell 7; simp only [getRules] at c_h_0 c_h_3 c_h_4 c_h_7
  have hob : (owner == 0) = false := by simpa using ho
  by_cases he : e = 0
  · subst he
    go_enter Tryd.func53, Tryd.ntmps53
    go_wp2_with fail
    refine (tover_any w b 0 _ _ h rfl).mono ?_
    rintro en w1 ⟨rfl, rfl⟩
    go_wp2_with fail
    go_ret2
    exact ⟨by simp [JoinS.got], Mod.refl _ _⟩
  · have heb : (e == 0) = false := by simpa using he
    go_enter Tryd.func53, Tryd.ntmps53
    go_wp2_with fail
    refine (tover_any w b 0 _ _ h rfl).mono ?_
    rintro en w1 ⟨rfl, rfl⟩
    go_wp2_with fail
    go_quiet (fail)
    go_wp2_with fail
    go_ret2
    exact ⟨by simp [JoinS.got, he], (Mod.refl _ _).drewN _⟩

end Go.Proofs.YtghkdkdlbkmicaaDoor
