/- Leave: its steps, by one alone. -/
import Derived.Test.YtghkdkdlbkmicaaDoorTables
namespace Go.Proofs.YtghkdkdlbkmicaaDoor
open Go.RowKit

/-- A Leave. -/
structure LeaveS where
  line : Int
  block : Int
  word : Int
  e : Int
  thread : Int
def LeaveS.obj (j : LeaveS) : Obj := .cells #[.int .i64 j.line, .int .i64 j.block, .int .u64 j.word, .int .i64 j.e, .int .i64 j.thread] 161
def LeaveS.new (t : Int) : LeaveS := ⟨1, t / 4, 0, 0, t⟩
def LeaveS.step (j : LeaveS) (σ : MS) : LeaveS × MS :=
  if j.line = 1 then (if σ.g 8 j.thread 0 = 0 then { j with line := 0, e := 6 } else { j with line := 2 }, σ.load 8 j.thread 0)
  else if j.line = 2 then (if σ.g 8 j.thread 1 = 0 then { j with line := 3 } else { j with line := 0, e := 4 }, σ.load 8 j.thread 1)
  else if j.line = 3 then ({ j with line := 4 }, σ.store 8 j.thread 6 0)
  else if j.line = 4 then ({ j with line := 5 }, σ.store 8 j.thread 0 0)
  else if j.line = 5 then ({ j with word := σ.g 7 j.block 0, line := 6 }, σ.load 7 j.block 0)
  else if j.line = 6 then (if (σ.g 7 j.block 0 == j.word) = true then { j with line := 0, e := 0 } else { j with line := 5 }, σ.cas 7 j.block 0 j.word (blockW (blkN j.word - 1) (blkC j.word)))
  else (j, σ)

set_option maxRecDepth 100000 in
set_option maxHeartbeats 2000000 in
theorem leaveOwned (w : World) (b m mb : Nat) (σ : MS) (j : LeaveS) (j' : LeaveS) (σ' : MS) (hs : j.step σ = (j', σ')) (hj : j.line = 1) (hb : Has w b j.obj) (hm : MemAt w m mb σ) (n1 : b ≠ m) (n2 : b ≠ mb) :
    Calls Tryd.prog 100 #[.pointer (some ⟨b, 0, none⟩), .pointer (some ⟨m, 0, none⟩)] w (TLeft w b m mb j'.obj σ') := by
  obtain ⟨line, block, word, e, t⟩ := j
  subst hj
  have HS := Lib.hid hs
  clear hs
  unfold LeaveS.obj at hb
  have hl := hb.lt
  have hl1 := hm.lt
  have hl2 := hm.ltb
  have fz := hb.frozen
  have c_hb_0 := hb.cell 0; have c_hb_4 := hb.cell 4; simp only [getRules] at c_hb_0 c_hb_4
  go_enter Tryd.func100, Tryd.ntmps100
  go_wp2_with fail
  refine (tof_any _ t 0).mono ?_
  rintro en w2 ⟨rfl, rfl⟩
  have hMs : Mod w ((w.setCell ⟨b, 0, none⟩ (.int .i64 2)).alloc (.cells #[.int .u8 8, .int .i64 t, .int .i64 0] 31)) [b] := ((Mod.refl _ _).setCell (.inl (by simp)) _).alloc _
  have hb2 := (hb.set_same 0 (.int .i64 2)).alloc (.cells #[.int .u8 8, .int .i64 t, .int .i64 0] 31)
  simp only [List.setIfInBounds_toArray, List.set_cons_zero] at hb2
  have hm2 := hm.mod hMs (by simp; omega) (by simp; omega)
  generalize (w.setCell ⟨b, 0, none⟩ (.int .i64 2)).alloc (.cells #[.int .u8 8, .int .i64 t, .int .i64 0] 31) = w2 at hMs hb2 hm2 ⊢
  clear c_hb_0 c_hb_4 fz
  go_wp2_with fail
  refine (load_any w2 m mb σ hm2 8 t 0).mono ?_
  rintro en w3 ⟨rfl, hM3, hm3⟩
  have hb3 := hb2.mod hM3 (by simp; omega)
  generalize hg : σ.g 8 t 0 = x at *
  have HG := Lib.hid hg
  clear hg
  have hl3 := hb3.lt
  by_cases hx : x = 0
  · subst hx
    have es : (⟨1, block, word, e, t⟩ : LeaveS).step σ = (⟨0, block, word, 6, t⟩, σ.load 8 t 0) := by simp [LeaveS.step, HG.out]
    obtain ⟨rfl, rfl⟩ := Prod.mk.inj (HS.out.symm.trans es)
    clear es HS
    go_wp2_with fail
    refine (tend_any _ b _ _ _ _ 6 hb3 rfl rfl).mono ?_
    rintro en w5 ⟨rfl, hM5, hb5⟩
    go_wp2
    (first | go_end0 | refine bodyPost_ret (results_none (by kernel_rfl) _ _ _) rfl ?_)
    exact ⟨rfl, ((hMs.wider (by simp)).call hM3 (by simp)).call hM5 (by simp), hm3.mod hM5 (by simp; omega) (by simp; omega), hb5⟩
  · have hxb : (x == 0) = false := by simpa using hx
    have es : (⟨1, block, word, e, t⟩ : LeaveS).step σ = (⟨2, block, word, e, t⟩, σ.load 8 t 0) := by simp [LeaveS.step, HG.out, hx]
    obtain ⟨rfl, rfl⟩ := Prod.mk.inj (HS.out.symm.trans es)
    clear es HS
    go_wp2_with fail
    (first | go_end0 | refine bodyPost_ret (results_none (by kernel_rfl) _ _ _) rfl ?_)
    exact ⟨rfl, (hMs.wider (by simp)).call hM3 (by simp), hm3, hb3⟩

set_option maxRecDepth 100000 in
set_option maxHeartbeats 2000000 in
theorem leaveInside (w : World) (b m mb : Nat) (σ : MS) (j : LeaveS) (j' : LeaveS) (σ' : MS) (hs : j.step σ = (j', σ')) (hj : j.line = 2) (hb : Has w b j.obj) (hm : MemAt w m mb σ) (n1 : b ≠ m) (n2 : b ≠ mb) :
    Calls Tryd.prog 101 #[.pointer (some ⟨b, 0, none⟩), .pointer (some ⟨m, 0, none⟩)] w (TLeft w b m mb j'.obj σ') := by
  obtain ⟨line, block, word, e, t⟩ := j
  subst hj
  have HS := Lib.hid hs
  clear hs
  unfold LeaveS.obj at hb
  have hl := hb.lt
  have hl1 := hm.lt
  have hl2 := hm.ltb
  have fz := hb.frozen
  have c_hb_0 := hb.cell 0; have c_hb_4 := hb.cell 4; simp only [getRules] at c_hb_0 c_hb_4
  go_enter Tryd.func101, Tryd.ntmps101
  go_wp2_with fail
  refine (tof_any _ t 1).mono ?_
  rintro en w2 ⟨rfl, rfl⟩
  have hMs : Mod w ((w.setCell ⟨b, 0, none⟩ (.int .i64 3)).alloc (.cells #[.int .u8 8, .int .i64 t, .int .i64 1] 31)) [b] := ((Mod.refl _ _).setCell (.inl (by simp)) _).alloc _
  have hb2 := (hb.set_same 0 (.int .i64 3)).alloc (.cells #[.int .u8 8, .int .i64 t, .int .i64 1] 31)
  simp only [List.setIfInBounds_toArray, List.set_cons_zero] at hb2
  have hm2 := hm.mod hMs (by simp; omega) (by simp; omega)
  generalize (w.setCell ⟨b, 0, none⟩ (.int .i64 3)).alloc (.cells #[.int .u8 8, .int .i64 t, .int .i64 1] 31) = w2 at hMs hb2 hm2 ⊢
  clear c_hb_0 c_hb_4 fz
  go_wp2_with fail
  refine (load_any w2 m mb σ hm2 8 t 1).mono ?_
  rintro en w3 ⟨rfl, hM3, hm3⟩
  have hb3 := hb2.mod hM3 (by simp; omega)
  generalize hg : σ.g 8 t 1 = x at *
  have HG := Lib.hid hg
  clear hg
  have hl3 := hb3.lt
  by_cases hx : x = 0
  · subst hx
    have es : (⟨2, block, word, e, t⟩ : LeaveS).step σ = (⟨3, block, word, e, t⟩, σ.load 8 t 1) := by simp [LeaveS.step, HG.out]
    obtain ⟨rfl, rfl⟩ := Prod.mk.inj (HS.out.symm.trans es)
    clear es HS
    go_wp2_with fail
    (first | go_end0 | refine bodyPost_ret (results_none (by kernel_rfl) _ _ _) rfl ?_)
    exact ⟨rfl, (hMs.wider (by simp)).call hM3 (by simp), hm3, hb3⟩
  · have hxb : (x == 0) = false := by simpa using hx
    have es : (⟨2, block, word, e, t⟩ : LeaveS).step σ = (⟨0, block, word, 4, t⟩, σ.load 8 t 1) := by simp [LeaveS.step, HG.out, hx]
    obtain ⟨rfl, rfl⟩ := Prod.mk.inj (HS.out.symm.trans es)
    clear es HS
    go_wp2_with fail
    refine (tend_any _ b _ _ _ _ 4 hb3 rfl rfl).mono ?_
    rintro en w5 ⟨rfl, hM5, hb5⟩
    go_wp2
    (first | go_end0 | refine bodyPost_ret (results_none (by kernel_rfl) _ _ _) rfl ?_)
    exact ⟨rfl, ((hMs.wider (by simp)).call hM3 (by simp)).call hM5 (by simp), hm3.mod hM5 (by simp; omega) (by simp; omega), hb5⟩

set_option maxRecDepth 100000 in
set_option maxHeartbeats 2000000 in
theorem leaveUnflag (w : World) (b m mb : Nat) (σ : MS) (j : LeaveS) (j' : LeaveS) (σ' : MS) (hs : j.step σ = (j', σ')) (hj : j.line = 3) (t0 : 0 ≤ j.thread) (t1 : j.thread < 16) (hb : Has w b j.obj) (hm : MemAt w m mb σ) (n1 : b ≠ m) (n2 : b ≠ mb) :
    Calls Tryd.prog 102 #[.pointer (some ⟨b, 0, none⟩), .pointer (some ⟨m, 0, none⟩)] w (TLeft w b m mb j'.obj σ') := by
  obtain ⟨line, block, word, e, t⟩ := j
  subst hj
  simp only at t0 t1
  have es : (⟨3, block, word, e, t⟩ : LeaveS).step σ = (⟨4, block, word, e, t⟩, σ.store 8 t 6 0) := by simp [LeaveS.step]
  obtain ⟨rfl, rfl⟩ := Prod.mk.inj (hs.symm.trans es)
  clear hs es
  unfold LeaveS.obj at hb
  have hl := hb.lt
  have hl1 := hm.lt
  have hl2 := hm.ltb
  have hmay : mayA 8 t 6 = true := by
    simp [mayA, roomAt, roomF]
    omega
  have c_hb_4 := hb.cell 4; simp only [getRules] at c_hb_4
  go_enter Tryd.func102, Tryd.ntmps102
  go_wp2_with fail
  refine (tof_any _ t 6).mono ?_
  rintro en w2 ⟨rfl, rfl⟩
  have hMs : Mod w (w.alloc (.cells #[.int .u8 8, .int .i64 t, .int .i64 6] 31)) [] := (Mod.refl _ _).alloc _
  have hb2 := hb.alloc (.cells #[.int .u8 8, .int .i64 t, .int .i64 6] 31)
  have hm2 := hm.mod hMs (by simp) (by simp)
  generalize w.alloc (.cells #[.int .u8 8, .int .i64 t, .int .i64 6] 31) = w2 at hMs hb2 hm2 ⊢
  clear c_hb_4
  go_wp2_with fail
  refine (store_any w2 m mb σ hm2 8 t 6 0 (by omega) (by omega) hmay).mono ?_
  rintro en w3 ⟨rfl, hM3, hm3⟩
  have hb3 := hb2.mod hM3 (by simp; omega)
  have c_hb3_0 := hb3.cell 0; simp only [getRules] at c_hb3_0
  have fz := hb3.frozen
  have hl3 := hb3.lt
  go_wp2_with fail
  (first | go_end0 | refine bodyPost_ret (results_none (by kernel_rfl) _ _ _) rfl ?_)
  have hMf : Mod w3 (w3.setCell ⟨b, 0, none⟩ (.int .i64 4)) [b] := (Mod.refl _ _).setCell (.inl (by simp)) _
  exact ⟨rfl, ((hMs.wider (by simp)).call hM3 (by simp)).call hMf (by simp), hm3.mod hMf (by simp; omega) (by simp; omega), hb3.set_same 0 (.int .i64 4)⟩

set_option maxRecDepth 100000 in
set_option maxHeartbeats 2000000 in
theorem leaveDisown (w : World) (b m mb : Nat) (σ : MS) (j : LeaveS) (j' : LeaveS) (σ' : MS) (hs : j.step σ = (j', σ')) (hj : j.line = 4) (t0 : 0 ≤ j.thread) (t1 : j.thread < 16) (hb : Has w b j.obj) (hm : MemAt w m mb σ) (n1 : b ≠ m) (n2 : b ≠ mb) :
    Calls Tryd.prog 103 #[.pointer (some ⟨b, 0, none⟩), .pointer (some ⟨m, 0, none⟩)] w (TLeft w b m mb j'.obj σ') := by
  obtain ⟨line, block, word, e, t⟩ := j
  subst hj
  simp only at t0 t1
  have es : (⟨4, block, word, e, t⟩ : LeaveS).step σ = (⟨5, block, word, e, t⟩, σ.store 8 t 0 0) := by simp [LeaveS.step]
  obtain ⟨rfl, rfl⟩ := Prod.mk.inj (hs.symm.trans es)
  clear hs es
  unfold LeaveS.obj at hb
  have hl := hb.lt
  have hl1 := hm.lt
  have hl2 := hm.ltb
  have hmay : mayA 8 t 0 = true := by
    simp [mayA, roomAt, roomF]
    omega
  have c_hb_4 := hb.cell 4; simp only [getRules] at c_hb_4
  go_enter Tryd.func103, Tryd.ntmps103
  go_wp2_with fail
  refine (tof_any _ t 0).mono ?_
  rintro en w2 ⟨rfl, rfl⟩
  have hMs : Mod w (w.alloc (.cells #[.int .u8 8, .int .i64 t, .int .i64 0] 31)) [] := (Mod.refl _ _).alloc _
  have hb2 := hb.alloc (.cells #[.int .u8 8, .int .i64 t, .int .i64 0] 31)
  have hm2 := hm.mod hMs (by simp) (by simp)
  generalize w.alloc (.cells #[.int .u8 8, .int .i64 t, .int .i64 0] 31) = w2 at hMs hb2 hm2 ⊢
  clear c_hb_4
  go_wp2_with fail
  refine (store_any w2 m mb σ hm2 8 t 0 0 (by omega) (by omega) hmay).mono ?_
  rintro en w3 ⟨rfl, hM3, hm3⟩
  have hb3 := hb2.mod hM3 (by simp; omega)
  have c_hb3_0 := hb3.cell 0; simp only [getRules] at c_hb3_0
  have fz := hb3.frozen
  have hl3 := hb3.lt
  go_wp2_with fail
  (first | go_end0 | refine bodyPost_ret (results_none (by kernel_rfl) _ _ _) rfl ?_)
  have hMf : Mod w3 (w3.setCell ⟨b, 0, none⟩ (.int .i64 5)) [b] := (Mod.refl _ _).setCell (.inl (by simp)) _
  exact ⟨rfl, ((hMs.wider (by simp)).call hM3 (by simp)).call hMf (by simp), hm3.mod hMf (by simp; omega) (by simp; omega), hb3.set_same 0 (.int .i64 5)⟩

set_option maxRecDepth 100000 in
set_option maxHeartbeats 2000000 in
theorem leaveLook (w : World) (hf : FieldsAt w) (b m mb : Nat) (σ : MS) (j : LeaveS) (j' : LeaveS) (σ' : MS) (hs : j.step σ = (j', σ')) (hj : j.line = 5) (hb : Has w b j.obj) (hm : MemAt w m mb σ) (n1 : b ≠ m) (n2 : b ≠ mb) (n3 : 0 ≠ m) (n4 : 0 ≠ b) :
    Calls Tryd.prog 104 #[.pointer (some ⟨b, 0, none⟩), .pointer (some ⟨m, 0, none⟩)] w (TLeft w b m mb j'.obj σ') := by
  obtain ⟨line, block, word, e, t⟩ := j
  subst hj
  have es : (⟨5, block, word, e, t⟩ : LeaveS).step σ = (⟨6, block, σ.g 7 block 0, e, t⟩, σ.load 7 block 0) := by simp [LeaveS.step]
  obtain ⟨rfl, rfl⟩ := Prod.mk.inj (hs.symm.trans es)
  clear hs es
  unfold LeaveS.obj at hb
  have hl1 := hm.lt
  have hl2 := hm.ltb
  have hl := hb.lt
  go_enter Tryd.func104, Tryd.ntmps104
  go_wp2_with fail
  refine (tload_any w hf b m mb σ _ _ block (.int .u64 word) hb rfl rfl hm n1 n2 n3 n4).mono ?_
  rintro en w1 ⟨rfl, hM1, hm1, hb1⟩
  simp only [List.setIfInBounds_toArray, List.set_cons_succ, List.set_cons_zero] at hb1
  have c_hb1_0 := hb1.cell 0; simp only [getRules] at c_hb1_0
  have fz := hb1.frozen
  have hl3 := hb1.lt
  go_wp2_with fail
  (first | go_end0 | refine bodyPost_ret (results_none (by kernel_rfl) _ _ _) rfl ?_)
  have hMf : Mod w1 (w1.setCell ⟨b, 0, none⟩ (.int .i64 6)) [b] := (Mod.refl _ _).setCell (.inl (by simp)) _
  exact ⟨rfl, (hM1.wider (by simp)).call hMf (by simp), hm1.mod hMf (by simp; omega) (by simp; omega), hb1.set_same 0 (.int .i64 6)⟩

set_option maxRecDepth 100000 in
set_option maxHeartbeats 2000000 in
theorem leaveFewer (w : World) (hf : FieldsAt w) (b m mb : Nat) (σ : MS) (j : LeaveS) (j' : LeaveS) (σ' : MS) (hs : j.step σ = (j', σ')) (hj : j.line = 6) (w0 : 0 ≤ j.word) (w1 : Hid (j.word < 18446744073709551616)) (hN1 : 1 ≤ blkN j.word) (hmay : mayA 7 j.block 0 = true) (hb : Has w b j.obj) (hm : MemAt w m mb σ) (n1 : b ≠ m) (n2 : b ≠ mb) (n3 : 0 ≠ m) (n4 : 0 ≠ b) :
    Calls Tryd.prog 105 #[.pointer (some ⟨b, 0, none⟩), .pointer (some ⟨m, 0, none⟩)] w (TLeft w b m mb j'.obj σ') := by
  obtain ⟨line, block, word, e, t⟩ := j
  subst hj
  simp only at w0 w1 hN1 hmay
  have HS := Lib.hid hs
  clear hs
  unfold LeaveS.obj at hb
  have hl := hb.lt
  have hl1 := hm.lt
  have hl2 := hm.ltb
  have fz := hb.frozen
  have c_hb_0 := hb.cell 0; simp only [getRules] at c_hb_0
  go_enter Tryd.func105, Tryd.ntmps105
  go_wp2_with fail
  have hMs : Mod w (w.setCell ⟨b, 0, none⟩ (.int .i64 5)) [b] := (Mod.refl _ _).setCell (.inl (by simp)) _
  have hb2 := hb.set_same 0 (.int .i64 5)
  simp only [List.setIfInBounds_toArray, List.set_cons_zero] at hb2
  have hm2 := hm.mod hMs (by simp; omega) (by simp; omega)
  have hf2 := hf.mod hMs (by simp; omega)
  generalize w.setCell ⟨b, 0, none⟩ (.int .i64 5) = w2 at hMs hb2 hm2 hf2 ⊢
  clear c_hb_0 fz
  refine (tless_any w2 hf2 b m mb σ _ _ block word w0 w1 hN1 hmay hb2 rfl rfl hm2 n1 n2 n3).mono ?_
  rintro en w3 ⟨rfl, hM3, hm3, hb3⟩
  cases hcas : (σ.g 7 block 0 == word)
  · have es : (⟨6, block, word, e, t⟩ : LeaveS).step σ = (⟨5, block, word, e, t⟩, σ.cas 7 block 0 word (blockW (blkN word - 1) (blkC word))) := by simp [LeaveS.step, hcas]
    obtain ⟨rfl, rfl⟩ := Prod.mk.inj (HS.out.symm.trans es)
    clear es HS hcas
    go_wp2_with fail
    (first | go_end0 | refine bodyPost_ret (results_none (by kernel_rfl) _ _ _) rfl ?_)
    exact ⟨rfl, (hMs.wider (by simp)).call hM3 (by simp), hm3, hb3⟩
  · have es : (⟨6, block, word, e, t⟩ : LeaveS).step σ = (⟨0, block, word, 0, t⟩, σ.cas 7 block 0 word (blockW (blkN word - 1) (blkC word))) := by simp [LeaveS.step, hcas]
    obtain ⟨rfl, rfl⟩ := Prod.mk.inj (HS.out.symm.trans es)
    clear es HS hcas
    have hl3 := hb3.lt
    go_wp2_with fail
    refine (tend_any _ b _ _ _ _ 0 hb3 rfl rfl).mono ?_
    rintro en w5 ⟨rfl, hM5, hb5⟩
    go_wp2
    (first | go_end0 | refine bodyPost_ret (results_none (by kernel_rfl) _ _ _) rfl ?_)
    exact ⟨rfl, ((hMs.wider (by simp)).call hM3 (by simp)).call hM5 (by simp), hm3.mod hM5 (by simp; omega) (by simp; omega), hb5⟩

end Go.Proofs.YtghkdkdlbkmicaaDoor
