/- Threads that join the table, and leave it: what each step does, by one alone. -/
import Derived.Test.YtghkdkdlbkmicaaDoorBlockWords
namespace Go.Proofs.YtghkdkdlbkmicaaDoor
open Go.RowKit

theorem tof_any (w : World) (t f : Int) : Calls Tryd.prog 138 #[.int .i64 t, .int .i64 f] w fun e w' => e = .returned (K 8 t f) ∧ w.alloc (.cells #[.int .u8 8, .int .i64 t, .int .i64 f] 31) = w' := by
  go_enter Tryd.func138, Tryd.ntmps138
  go_wp2
  refine bodyPost_ret (v := K 8 t f) ?_ rfl ⟨rfl, rfl⟩
  simp [results, Tryd.results138, go_sem, K]

theorem tat_at (w : World) (b : Nat) (block : Int) (d1 : w.cell? ⟨b, 1, none⟩ = some (.int .i64 block)) (hl : b < w.heap.size) :
    Calls Tryd.prog 137 #[.pointer (some ⟨b, 0, none⟩)] w fun e w' => e = .returned (K 7 block 0) ∧ w.alloc (.cells #[.int .u8 7, .int .i64 block, .int .i64 0] 31) = w' := by
  go_enter Tryd.func137, Tryd.ntmps137
  go_wp2
  refine bodyPost_ret (v := K 7 block 0) ?_ rfl ⟨rfl, rfl⟩
  simp [results, Tryd.results137, go_sem, K]
theorem tat_any (w : World) (b : Nat) (cs : Array Value) (T : TypeId) (block : Int) (h : Has w b (.cells cs T)) (c1 : cs[1]? = some (.int .i64 block)) :
    Calls Tryd.prog 137 #[.pointer (some ⟨b, 0, none⟩)] w fun e w' => e = .returned (K 7 block 0) ∧ Mod w w' [] := by
  refine (tat_at w b block (by rw [h.cell]; exact c1) h.lt).mono ?_
  rintro e w' ⟨he, rfl⟩
  exact ⟨he, (Mod.refl _ _).alloc _⟩

theorem tend_any (w : World) (b : Nat) (cs : Array Value) (T : TypeId) (x0 x3 : Value) (e : Int) (h : Has w b (.cells cs T)) (c0 : cs[0]? = some x0) (c3 : cs[3]? = some x3) :
    Calls Tryd.prog 89 #[.pointer (some ⟨b, 0, none⟩), .int .i64 e] w fun en w' => en = .returned (.tuple #[]) ∧ Mod w w' [b] ∧ Has w' b (.cells ((cs.setIfInBounds 0 (.int .i64 0)).setIfInBounds 3 (.int .i64 e)) T) := by
  have d0 := h.cell 0
  have d3 := h.cell 3
  rw [c0] at d0
  rw [c3] at d3
  have hl := h.lt
  have fz := h.frozen
  go_enter Tryd.func89, Tryd.ntmps89
  go_wp2
  (first | go_end0 | refine bodyPost_ret (results_none (by kernel_rfl) _ _ _) rfl ?_)
  exact ⟨rfl, ((Mod.refl _ _).setCell (.inl (by simp)) _).setCell (.inl (by simp)) _, (h.set_same 0 _).set_same 3 _⟩

theorem tover_any (w : World) (b : Nat) (l : Int) (cs : Array Value) (T : TypeId) (h : Has w b (.cells cs T)) (c0 : cs[0]? = some (.int .i64 l)) :
    Calls Tryd.prog 98 #[.pointer (some ⟨b, 0, none⟩)] w fun e w' => e = .returned (.bool (l == 0)) ∧ w = w' := by
  have d0 := h.cell 0
  rw [c0] at d0
  go_enter Tryd.func98, Tryd.ntmps98
  go_wp2
  go_ret
  exact ⟨rfl, rfl⟩

set_option maxHeartbeats 1000000 in
theorem tload_any (w : World) (hf : FieldsAt w) (b m mb : Nat) (σ : MS) (cs : Array Value) (T : TypeId) (block : Int) (x2 : Value) (h : Has w b (.cells cs T)) (c1 : cs[1]? = some (.int .i64 block)) (c2 : cs[2]? = some x2) (hm : MemAt w m mb σ) (n1 : b ≠ m) (n2 : b ≠ mb) (n3 : 0 ≠ m) (n4 : 0 ≠ b) :
    Calls Tryd.prog 135 #[.pointer (some ⟨b, 0, none⟩), .pointer (some ⟨m, 0, none⟩)] w fun e w' =>
      e = .returned (.tuple #[.int .u32 (blkN (σ.g 7 block 0)), .bool (blkC (σ.g 7 block 0))]) ∧ Mod w w' [m, b] ∧ MemAt w' m mb (σ.load 7 block 0) ∧ Has w' b (.cells (cs.setIfInBounds 2 (.int .u64 (σ.g 7 block 0))) T) := by
  have hl := h.lt
  have hl1 := hm.lt
  have hl2 := hm.ltb
  have hr := hm.range 7 block 0
  have R1 := Lib.hid hr.2
  have r0 := hr.1
  clear hr
  have hfl := hf.lt
  go_enter Tryd.func135, Tryd.ntmps135
  go_wp2_with fail
  refine (tat_any w b cs T block h c1).mono ?_
  rintro e w1 ⟨rfl, hM1⟩
  have h1 := h.mod hM1 (by simp)
  have hm1 := hm.mod hM1 (by simp) (by simp)
  go_wp2_with fail
  refine (load_any w1 m mb σ hm1 7 block 0).mono ?_
  rintro e w2 ⟨rfl, hM2, hm2⟩
  have h2 := h1.mod hM2 (by simp; omega)
  have hf2 := (hf.mod hM1 (by simp)).mod hM2 (by simp; omega)
  have d2 := h2.cell 2
  rw [c2] at d2
  have fz := h2.frozen
  have hl3 := h2.lt
  generalize hg : σ.g 7 block 0 = x at *
  have HG := Lib.hid hg
  clear hg
  go_wp2_with fail
  have hMs : Mod w2 (w2.setCell ⟨b, 2, none⟩ (.int .u64 x)) [b] := (Mod.refl _ _).setCell (.inl (by simp)) _
  refine (asBlock_any _ (hf2.mod hMs (by simp; omega)) x r0 R1.out).mono ?_
  rintro e w3 ⟨rfl, n, rfl⟩
  go_wp2_with fail
  go_ret2
  rw [HG.out]
  refine ⟨rfl, ?_, (hm2.mod hMs (by simp; omega) (by simp; omega)).mod (S := []) ((Mod.refl _ _).drewN n) (by simp) (by simp), (h2.set_same 2 _).drewN n⟩
  exact (((hM1.wider (by simp)).call hM2 (by simp)).call hMs (by simp)).drewN n

/-- A Join. -/
structure JoinS where
  line : Int
  block : Int
  word : Int
  e : Int
  owner : Int
  blocks : Int
  k : Int
  thread : Int
def JoinS.obj (j : JoinS) : Obj := .cells #[.int .i64 j.line, .int .i64 j.block, .int .u64 j.word, .int .i64 j.e, .int .u64 j.owner, .int .i64 j.blocks, .int .i64 j.k, .int .i64 j.thread] 156
def JoinS.new (owner : Int) : JoinS := ⟨1, 0, 0, 0, owner + 1, 0, 0, -1⟩
def JoinS.step (j : JoinS) (σ : MS) : JoinS × MS :=
  if j.line = 1 then
    (if σ.g 5 0 0 = 0 then { j with blocks := 0, line := 0, e := 5 } else { j with blocks := σ.g 5 0 0, line := 2 }, σ.load 5 0 0)
  else if j.line = 2 then
    (if blkC (σ.g 7 j.block 0) = false ∧ blkN (σ.g 7 j.block 0) < 4 then { j with word := σ.g 7 j.block 0, line := 3 }
      else if j.block + 1 = j.blocks then { j with word := σ.g 7 j.block 0, block := j.block + 1, line := 0, e := 5 }
      else { j with word := σ.g 7 j.block 0, block := j.block + 1 }, σ.load 7 j.block 0)
  else if j.line = 3 then
    (if (σ.g 7 j.block 0 == j.word) = true then { j with line := 4, k := 0 } else { j with line := 2 }, σ.cas 7 j.block 0 j.word (blockW (blkN j.word + 1) (blkC j.word)))
  else if j.line = 4 then
    (if (σ.g 8 (j.block * 4 + j.k) 0 == 0) = true then { j with thread := j.block * 4 + j.k, line := 5, k := 1 }
      else if j.k + 1 = 4 then { j with k := j.k + 1, line := 6 } else { j with k := j.k + 1 }, σ.cas 8 (j.block * 4 + j.k) 0 0 j.owner)
  else if j.line = 5 then
    (if j.k + 1 = 10 then { j with k := j.k + 1, line := 0, e := 0 } else { j with k := j.k + 1 }, σ.store 8 j.thread j.k 0)
  else if j.line = 6 then ({ j with word := σ.g 7 j.block 0, line := 7 }, σ.load 7 j.block 0)
  else if j.line = 7 then
    (if (σ.g 7 j.block 0 == j.word) = true then { j with line := 0, e := 7 } else { j with line := 6 }, σ.cas 7 j.block 0 j.word (blockW (blkN j.word - 1) (blkC j.word)))
  else (j, σ)

def TLeft (w : World) (b m mb : Nat) (o : Obj) (σ : MS) (e : Ending) (w' : World) : Prop :=
  e = .returned (.tuple #[]) ∧ Mod w w' [m, mb, b] ∧ MemAt w' m mb σ ∧ Has w' b o

set_option maxRecDepth 100000 in
set_option maxHeartbeats 1000000 in
theorem joinCount (w : World) (b m mb : Nat) (σ : MS) (j : JoinS) (j' : JoinS) (σ' : MS) (hs : j.step σ = (j', σ')) (hj : j.line = 1) (h4 : σ.g 5 0 0 ≤ 4) (hb : Has w b j.obj) (hm : MemAt w m mb σ) (n1 : b ≠ m) (n2 : b ≠ mb) :
    Calls Tryd.prog 91 #[.pointer (some ⟨b, 0, none⟩), .pointer (some ⟨m, 0, none⟩)] w (TLeft w b m mb j'.obj σ') := by
  obtain ⟨line, block, word, e, owner, blocks, k, thread⟩ := j
  subst hj
  have HS := Lib.hid hs
  clear hs
  unfold JoinS.obj at hb
  have hl := hb.lt
  have hl1 := hm.lt
  have hl2 := hm.ltb
  have hr := hm.range 5 0 0
  have r0 := hr.1
  have R1 := Lib.hid hr.2
  have c0 := hb.cell 0
  clear hr
  go_enter Tryd.func91, Tryd.ntmps91
  go_wp2_with fail
  refine (load_any w m mb σ hm 5 0 0).mono ?_
  rintro en w1 ⟨rfl, hM1, hm1⟩
  replace hb := hb.mod hM1 (by simp; omega)
  generalize hg : σ.g 5 0 0 = x at *
  have HG := Lib.hid hg
  clear hg
  clear c0
  have c_hb_0 := hb.cell 0; have c_hb_1 := hb.cell 1; have c_hb_2 := hb.cell 2; have c_hb_3 := hb.cell 3; have c_hb_5 := hb.cell 5; simp only [getRules] at c_hb_0 c_hb_1 c_hb_2 c_hb_3 c_hb_5
  have fz := hb.frozen
  have hl3 := hb.lt
  have hx4 : ¬ 4 < x := by omega
  by_cases hx : x = 0
  · subst hx
    have es : (⟨1, block, word, e, owner, blocks, k, thread⟩ : JoinS).step σ = (⟨0, block, word, 5, owner, 0, k, thread⟩, σ.load 5 0 0) := by simp [JoinS.step, HG.out]
    obtain ⟨rfl, rfl⟩ := Prod.mk.inj (HS.out.symm.trans es)
    clear es HS
    go_wp2_with fail
    have hMs : Mod w1 ((w1.setCell ⟨b, 5, none⟩ (.int .i64 0)).setCell ⟨b, 0, none⟩ (.int .i64 2)) [b] := ((Mod.refl _ _).setCell (.inl (by simp)) _).setCell (.inl (by simp)) _
    refine (tend_any _ b _ _ _ _ 5 ((hb.set_same 5 (.int .i64 0)).set_same 0 (.int .i64 2)) rfl rfl).mono ?_
    rintro en w2 ⟨rfl, hM2, hb2⟩
    go_wp2
    (first | go_end0 | refine bodyPost_ret (results_none (by kernel_rfl) _ _ _) rfl ?_)
    exact ⟨rfl, ((hM1.wider (by simp)).call hMs (by simp)).call hM2 (by simp), (hm1.mod hMs (by simp; omega) (by simp; omega)).mod hM2 (by simp; omega) (by simp; omega), hb2⟩
  · have es : (⟨1, block, word, e, owner, blocks, k, thread⟩ : JoinS).step σ = (⟨2, block, word, e, owner, x, k, thread⟩, σ.load 5 0 0) := by simp [JoinS.step, HG.out, hx]
    obtain ⟨rfl, rfl⟩ := Prod.mk.inj (HS.out.symm.trans es)
    clear es HS
    have hxb : (x == 0) = false := by simpa using hx
    go_wp2_with fail
    (first | go_end0 | refine bodyPost_ret (results_none (by kernel_rfl) _ _ _) rfl ?_)
    have hMs : Mod w1 ((w1.setCell ⟨b, 5, none⟩ (.int .i64 x)).setCell ⟨b, 0, none⟩ (.int .i64 2)) [b] := ((Mod.refl _ _).setCell (.inl (by simp)) _).setCell (.inl (by simp)) _
    exact ⟨rfl, (hM1.wider (by simp)).call hMs (by simp), hm1.mod hMs (by simp; omega) (by simp; omega), (hb.set_same 5 (.int .i64 x)).set_same 0 (.int .i64 2)⟩

set_option maxRecDepth 100000 in
set_option maxHeartbeats 2000000 in
theorem joinLook (w : World) (hf : FieldsAt w) (b m mb : Nat) (σ : MS) (j : JoinS) (j' : JoinS) (σ' : MS) (hs : j.step σ = (j', σ')) (hj : j.line = 2) (b0 : 0 ≤ j.block) (b1 : j.block < 100) (hb : Has w b j.obj) (hm : MemAt w m mb σ) (n1 : b ≠ m) (n2 : b ≠ mb) (n3 : 0 ≠ m) (n4 : 0 ≠ b) :
    Calls Tryd.prog 92 #[.pointer (some ⟨b, 0, none⟩), .pointer (some ⟨m, 0, none⟩)] w (TLeft w b m mb j'.obj σ') := by
  obtain ⟨line, block, word, e, owner, blocks, k, thread⟩ := j
  subst hj
  have HS := Lib.hid hs
  clear hs
  simp only at b0 b1
  unfold JoinS.obj at hb
  have hl := hb.lt
  have hl1 := hm.lt
  have hl2 := hm.ltb
  have c0 := hb.cell 0
  go_enter Tryd.func92, Tryd.ntmps92
  go_wp2_with fail
  refine (tload_any w hf b m mb σ _ _ block (.int .u64 word) hb rfl rfl hm n1 n2 n3 n4).mono ?_
  rintro en w1 ⟨rfl, hM1, hm1, hb1⟩
  simp only [List.setIfInBounds_toArray, List.set_cons_succ, List.set_cons_zero] at hb1
  generalize hg : σ.g 7 block 0 = x at *
  have HG := Lib.hid hg
  clear hg c0
  have c_hb1_0 := hb1.cell 0; have c_hb1_1 := hb1.cell 1; have c_hb1_2 := hb1.cell 2; have c_hb1_5 := hb1.cell 5; simp only [getRules] at c_hb1_0 c_hb1_1 c_hb1_2 c_hb1_5
  have fz := hb1.frozen
  have hl3 := hb1.lt
  have hn0 : 0 ≤ blkN x := by unfold blkN; omega
  generalize hn : blkN x = n at *
  generalize hc : blkC x = c at *
  have HN := Lib.hid hn
  have HC := Lib.hid hc
  clear hn hc
  by_cases hx : c = false ∧ n < 4
  · have es : (⟨2, block, word, e, owner, blocks, k, thread⟩ : JoinS).step σ = (⟨3, block, x, e, owner, blocks, k, thread⟩, σ.load 7 block 0) := by simp [JoinS.step, HG.out, HN.out, HC.out, hx]
    obtain ⟨rfl, rfl⟩ := Prod.mk.inj (HS.out.symm.trans es)
    clear es HS
    obtain ⟨rfl, hn4⟩ := hx
    go_wp2_with fail
    (first | go_end0 | refine bodyPost_ret (results_none (by kernel_rfl) _ _ _) rfl ?_)
    have hMs : Mod w1 (w1.setCell ⟨b, 0, none⟩ (.int .i64 3)) [b] := (Mod.refl _ _).setCell (.inl (by simp)) _
    exact ⟨rfl, (hM1.wider (by simp)).call hMs (by simp), hm1.mod hMs (by simp; omega) (by simp; omega), hb1.set_same 0 (.int .i64 3)⟩
  · by_cases hbb : block + 1 = blocks
    · subst hbb
      have es : (⟨2, block, word, e, owner, block + 1, k, thread⟩ : JoinS).step σ = (⟨0, block + 1, x, 5, owner, block + 1, k, thread⟩, σ.load 7 block 0) := by
        simp only [JoinS.step, HG.out, HN.out, HC.out, if_neg hx]
        simp
      obtain ⟨rfl, rfl⟩ := Prod.mk.inj (HS.out.symm.trans es)
      clear es HS
      cases c
      · have hn4 : ¬ n < 4 := fun h => hx ⟨rfl, h⟩
        clear hx
        go_wp2_with fail
        go_quiet (fail)
        go_wp2_with fail
        have hMs : Mod w1 ((w1.setCell ⟨b, 1, none⟩ (.int .i64 (block + 1))).drewN nq) [b] := ((Mod.refl _ _).setCell (.inl (by simp)) _).drewN _
        refine (tend_any _ b _ _ _ _ 5 ((hb1.set_same 1 (.int .i64 (block + 1))).drewN nq) rfl rfl).mono ?_
        rintro en w2 ⟨rfl, hM2, hb2⟩
        go_wp2
        (first | go_end0 | refine bodyPost_ret (results_none (by kernel_rfl) _ _ _) rfl ?_)
        exact ⟨rfl, ((hM1.wider (by simp)).call hMs (by simp)).call hM2 (by simp), (hm1.mod hMs (by simp; omega) (by simp; omega)).mod hM2 (by simp; omega) (by simp; omega), hb2⟩
      · clear hx
        go_wp2_with fail
        go_quiet (fail)
        go_wp2_with fail
        have hMs : Mod w1 ((w1.setCell ⟨b, 1, none⟩ (.int .i64 (block + 1))).drewN nq) [b] := ((Mod.refl _ _).setCell (.inl (by simp)) _).drewN _
        refine (tend_any _ b _ _ _ _ 5 ((hb1.set_same 1 (.int .i64 (block + 1))).drewN nq) rfl rfl).mono ?_
        rintro en w2 ⟨rfl, hM2, hb2⟩
        go_wp2
        (first | go_end0 | refine bodyPost_ret (results_none (by kernel_rfl) _ _ _) rfl ?_)
        exact ⟨rfl, ((hM1.wider (by simp)).call hMs (by simp)).call hM2 (by simp), (hm1.mod hMs (by simp; omega) (by simp; omega)).mod hM2 (by simp; omega) (by simp; omega), hb2⟩
    · have es : (⟨2, block, word, e, owner, blocks, k, thread⟩ : JoinS).step σ = (⟨2, block + 1, x, e, owner, blocks, k, thread⟩, σ.load 7 block 0) := by
        simp only [JoinS.step, HG.out, HN.out, HC.out, if_neg hx, if_neg hbb]
        simp
      obtain ⟨rfl, rfl⟩ := Prod.mk.inj (HS.out.symm.trans es)
      clear es HS
      have hbb2 : (block + 1 == blocks) = false := by simpa using hbb
      cases c
      · have hn4 : ¬ n < 4 := fun h => hx ⟨rfl, h⟩
        clear hx
        go_wp2_with fail
        go_quiet (fail)
        go_wp2_with fail
        (first | go_end0 | refine bodyPost_ret (results_none (by kernel_rfl) _ _ _) rfl ?_)
        have hMs : Mod w1 ((w1.setCell ⟨b, 1, none⟩ (.int .i64 (block + 1))).drewN nq) [b] := ((Mod.refl _ _).setCell (.inl (by simp)) _).drewN _
        exact ⟨rfl, (hM1.wider (by simp)).call hMs (by simp), hm1.mod hMs (by simp; omega) (by simp; omega), (hb1.set_same 1 (.int .i64 (block + 1))).drewN nq⟩
      · clear hx
        go_wp2_with fail
        go_quiet (fail)
        go_wp2_with fail
        (first | go_end0 | refine bodyPost_ret (results_none (by kernel_rfl) _ _ _) rfl ?_)
        have hMs : Mod w1 ((w1.setCell ⟨b, 1, none⟩ (.int .i64 (block + 1))).drewN nq) [b] := ((Mod.refl _ _).setCell (.inl (by simp)) _).drewN _
        exact ⟨rfl, (hM1.wider (by simp)).call hMs (by simp), hm1.mod hMs (by simp; omega) (by simp; omega), (hb1.set_same 1 (.int .i64 (block + 1))).drewN nq⟩

set_option maxRecDepth 100000 in
set_option maxHeartbeats 2000000 in
theorem joinMore (w : World) (hf : FieldsAt w) (b m mb : Nat) (σ : MS) (j : JoinS) (j' : JoinS) (σ' : MS) (hs : j.step σ = (j', σ')) (hj : j.line = 3) (w0 : 0 ≤ j.word) (w1 : Hid (j.word < 18446744073709551616)) (hn4 : blkN j.word < 4) (hmay : mayA 7 j.block 0 = true) (hb : Has w b j.obj) (hm : MemAt w m mb σ) (n1 : b ≠ m) (n2 : b ≠ mb) (n3 : 0 ≠ m) (n4 : 0 ≠ b) :
    Calls Tryd.prog 93 #[.pointer (some ⟨b, 0, none⟩), .pointer (some ⟨m, 0, none⟩)] w (TLeft w b m mb j'.obj σ') := by
  obtain ⟨line, block, word, e, owner, blocks, k, thread⟩ := j
  subst hj
  simp only at w0 w1 hn4 hmay
  have HS := Lib.hid hs
  clear hs
  unfold JoinS.obj at hb
  have hl := hb.lt
  have hl1 := hm.lt
  have hl2 := hm.ltb
  have hfl := hf.lt
  have hn0 : 0 ≤ blkN word := by unfold blkN; omega
  have hbw := blockW_range (n := blkN word + 1) (by omega) (by omega) (blkC word)
  have bw0 := hbw.1
  have BW1 := Lib.hid hbw.2
  have hw32 : IntKind.u32.wrap (blkN word + 1) = blkN word + 1 := by rw [IntKind.wrap_u32]; omega
  clear hbw
  have c_hb_0 := hb.cell 0; have c_hb_1 := hb.cell 1; have c_hb_2 := hb.cell 2; simp only [getRules] at c_hb_0 c_hb_1 c_hb_2
  go_enter Tryd.func93, Tryd.ntmps93
  go_wp2_with fail
  refine (asBlock_any w hf word w0 w1.out).mono ?_
  rintro en w2 ⟨rfl, n, rfl⟩
  generalize hN : blkN word = N at *
  generalize hCC : blkC word = C at *
  have HN := Lib.hid hN
  have HC := Lib.hid hCC
  clear hN hCC
  have fz := hb.frozen
  go_wp2_with fail
  have hM1 : Mod w ((w.drewN n).setCell ⟨b, 0, none⟩ (.int .i64 2)) [b] := ((Mod.refl _ _).drewN n).setCell (.inl (by simp)) _
  have hb1 := (hb.drewN n).set_same 0 (.int .i64 2)
  simp only [List.setIfInBounds_toArray, List.set_cons_zero] at hb1
  have hm1 := hm.mod hM1 (by simp; omega) (by simp; omega)
  have hf1 := hf.mod hM1 (by simp; omega)
  clear c_hb_0 c_hb_1 c_hb_2 fz
  generalize (w.drewN n).setCell ⟨b, 0, none⟩ (.int .i64 2) = W1 at hM1 hb1 hm1 hf1 ⊢
  have c_hb1_0 := hb1.cell 0; have c_hb1_1 := hb1.cell 1; have c_hb1_2 := hb1.cell 2; simp only [getRules] at c_hb1_0 c_hb1_1 c_hb1_2
  have hl3 := hb1.lt
  have hl4 := hm1.lt
  have hl5 := hm1.ltb
  have hl6 := hf1.lt
  cases hcas : (σ.g 7 block 0 == word)
  · have es : (⟨3, block, word, e, owner, blocks, k, thread⟩ : JoinS).step σ = (⟨2, block, word, e, owner, blocks, k, thread⟩, σ.cas 7 block 0 word (blockW (N + 1) C)) := by simp [JoinS.step, hcas, HN.out, HC.out]
    obtain ⟨rfl, rfl⟩ := Prod.mk.inj (HS.out.symm.trans es)
    have HCAS := Lib.hid hcas
    clear hcas es HS
    go_region_held3 (fun W => W.cell? ⟨b, 2, none⟩ = some (.int .u64 word)) (first | assumption | (simp [go_sem, c_hb1_2, hl3]))
      (first | (go_at_call 137; go_must (refine (tat_at _ b block (by simp [go_sem, c_hb1_1]) (by simp; exact hl3)).mono ?_; rintro en w3 ⟨rfl, rfl⟩)) | (go_at_call 12; go_must (refine (block_any _ (hf1.mod (S := []) (by (repeat (first | with_reducible (first | exact Mod.refl _ _ | apply Mod.drewN | apply Mod.drew | apply Mod.alloc | refine Mod.setCell ?_ ?_ _ | refine Mod.put ?_ ?_ _) | focus (simp; done) | focus (simp; omega)))) (by first | (simp; done) | (simp; omega))) (N + 1) C (by omega) (by omega)).mono ?_; rintro en w3 ⟨rfl, n5, rfl⟩)) | (go_at_call 136; go_must (refine (cas_any _ m mb σ (hm1.mod (S := []) (by (repeat (first | with_reducible (first | exact Mod.refl _ _ | apply Mod.drewN | apply Mod.drew | apply Mod.alloc | refine Mod.setCell ?_ ?_ _ | refine Mod.put ?_ ?_ _) | focus (simp; done) | focus (simp; omega)))) (by simp) (by simp)) 7 block 0 word (blockW (N + 1) C) bw0 BW1.out hmay).mono ?_; rintro en w4 ⟨rfl, hm4, h4⟩; rw [HCAS.out]; have hM4 : Mod W1 w4 [m, mb] := (by (repeat (first | with_reducible (first | exact hm4 | exact Mod.refl _ _ | apply Mod.drewN | apply Mod.drew | apply Mod.alloc | refine Mod.setCell ?_ ?_ _ | refine Mod.put ?_ ?_ _ | refine Mod.call ?_ hm4 ?_) | focus (simp; done) | focus (simp; omega)))); have hb4 := hb1.mod hM4 (by simp; omega); clear c_hb1_0 c_hb1_1 c_hb1_2; have c_hb4_0 := hb4.cell 0; have c_hb4_1 := hb4.cell 1; have c_hb4_2 := hb4.cell 2; have c_hb4_6 := hb4.cell 6; simp only [getRules] at c_hb4_0 c_hb4_1 c_hb4_2 c_hb4_6; have fz4 := hb4.frozen; have hl7 := hb4.lt)))
    go_wp2_with fail
    (first | go_end0 | refine bodyPost_ret (results_none (by kernel_rfl) _ _ _) rfl ?_)
    exact ⟨rfl, (hM1.wider (by simp)).call hM4 (by simp), h4, hb4⟩
  · have es : (⟨3, block, word, e, owner, blocks, k, thread⟩ : JoinS).step σ = (⟨4, block, word, e, owner, blocks, 0, thread⟩, σ.cas 7 block 0 word (blockW (N + 1) C)) := by simp [JoinS.step, hcas, HN.out, HC.out]
    obtain ⟨rfl, rfl⟩ := Prod.mk.inj (HS.out.symm.trans es)
    have HCAS := Lib.hid hcas
    clear hcas es HS
    go_region_held3 (fun W => W.cell? ⟨b, 2, none⟩ = some (.int .u64 word)) (first | assumption | (simp [go_sem, c_hb1_2, hl3]))
      (first | (go_at_call 137; go_must (refine (tat_at _ b block (by simp [go_sem, c_hb1_1]) (by simp; exact hl3)).mono ?_; rintro en w3 ⟨rfl, rfl⟩)) | (go_at_call 12; go_must (refine (block_any _ (hf1.mod (S := []) (by (repeat (first | with_reducible (first | exact Mod.refl _ _ | apply Mod.drewN | apply Mod.drew | apply Mod.alloc | refine Mod.setCell ?_ ?_ _ | refine Mod.put ?_ ?_ _) | focus (simp; done) | focus (simp; omega)))) (by first | (simp; done) | (simp; omega))) (N + 1) C (by omega) (by omega)).mono ?_; rintro en w3 ⟨rfl, n5, rfl⟩)) | (go_at_call 136; go_must (refine (cas_any _ m mb σ (hm1.mod (S := []) (by (repeat (first | with_reducible (first | exact Mod.refl _ _ | apply Mod.drewN | apply Mod.drew | apply Mod.alloc | refine Mod.setCell ?_ ?_ _ | refine Mod.put ?_ ?_ _) | focus (simp; done) | focus (simp; omega)))) (by simp) (by simp)) 7 block 0 word (blockW (N + 1) C) bw0 BW1.out hmay).mono ?_; rintro en w4 ⟨rfl, hm4, h4⟩; rw [HCAS.out]; have hM4 : Mod W1 w4 [m, mb] := (by (repeat (first | with_reducible (first | exact hm4 | exact Mod.refl _ _ | apply Mod.drewN | apply Mod.drew | apply Mod.alloc | refine Mod.setCell ?_ ?_ _ | refine Mod.put ?_ ?_ _ | refine Mod.call ?_ hm4 ?_) | focus (simp; done) | focus (simp; omega)))); have hb4 := hb1.mod hM4 (by simp; omega); clear c_hb1_0 c_hb1_1 c_hb1_2; have c_hb4_0 := hb4.cell 0; have c_hb4_1 := hb4.cell 1; have c_hb4_2 := hb4.cell 2; have c_hb4_6 := hb4.cell 6; simp only [getRules] at c_hb4_0 c_hb4_1 c_hb4_2 c_hb4_6; have fz4 := hb4.frozen; have hl7 := hb4.lt)))
    go_wp2_with fail
    (first | go_end0 | refine bodyPost_ret (results_none (by kernel_rfl) _ _ _) rfl ?_)
    have hMs : Mod w4 ((w4.setCell ⟨b, 0, none⟩ (.int .i64 4)).setCell ⟨b, 6, none⟩ (.int .i64 0)) [b] := ((Mod.refl _ _).setCell (.inl (by simp)) _).setCell (.inl (by simp)) _
    exact ⟨rfl, ((hM1.wider (by simp)).call hM4 (by simp)).call hMs (by simp), h4.mod hMs (by simp; omega) (by simp; omega), (hb4.set_same 0 (.int .i64 4)).set_same 6 (.int .i64 0)⟩

set_option maxRecDepth 100000 in
set_option maxHeartbeats 2000000 in
theorem joinOwn (w : World) (b m mb : Nat) (σ : MS) (j : JoinS) (j' : JoinS) (σ' : MS) (hs : j.step σ = (j', σ')) (hj : j.line = 4) (b0 : 0 ≤ j.block) (b1 : j.block < 4) (k0 : 0 ≤ j.k) (k1 : j.k < 4) (o0 : 0 ≤ j.owner) (o1 : Hid (j.owner < 18446744073709551616)) (hb : Has w b j.obj) (hm : MemAt w m mb σ) (n1 : b ≠ m) (n2 : b ≠ mb) :
    Calls Tryd.prog 94 #[.pointer (some ⟨b, 0, none⟩), .pointer (some ⟨m, 0, none⟩)] w (TLeft w b m mb j'.obj σ') := by
  obtain ⟨line, block, word, e, owner, blocks, k, thread⟩ := j
  subst hj
  simp only at b0 b1 k0 k1 o0 o1
  have HS := Lib.hid hs
  clear hs
  unfold JoinS.obj at hb
  have hl := hb.lt
  have hl1 := hm.lt
  have hl2 := hm.ltb
  have hmay : mayA 8 (block * 4 + k) 0 = true := by
    simp [mayA, roomAt, roomF]
    omega
  have c_hb_0 := hb.cell 0; have c_hb_1 := hb.cell 1; have c_hb_4 := hb.cell 4; have c_hb_6 := hb.cell 6; simp only [getRules] at c_hb_0 c_hb_1 c_hb_4 c_hb_6
  go_enter Tryd.func94, Tryd.ntmps94
  go_wp2_with fail
  go_quiet (fail)
  go_wp2_with fail
  generalize ht : block * 4 + k = t at *
  have HT := Lib.hid ht
  clear ht
  cases hcas : (σ.g 8 t 0 == 0)
  · rcases (show k = 3 ∨ k < 3 by omega) with hk3 | hk3
    · subst hk3
      have es : (⟨4, block, word, e, owner, blocks, 3, thread⟩ : JoinS).step σ = (⟨6, block, word, e, owner, blocks, 4, thread⟩, σ.cas 8 t 0 0 owner) := by
        simp [JoinS.step, HT.out, hcas]
      obtain ⟨rfl, rfl⟩ := Prod.mk.inj (HS.out.symm.trans es)
      have HCAS := Lib.hid hcas
      clear hcas es HS HT
      go_region_held3 (fun W => W.cell? ⟨b, 4, none⟩ = some (.int .u64 owner)) (first | assumption | (simp [go_sem, alloc_drewN, c_hb_4, hl]))
        (first | (go_at_call 138; go_must (refine (tof_any _ t 0).mono ?_; rintro en w3 ⟨rfl, rfl⟩)) | (go_at_call 136; go_must (refine (cas_any _ m mb σ (hm.mod (S := []) (by (repeat (first | with_reducible (first | exact Mod.refl _ _ | apply Mod.drewN | apply Mod.drew | apply Mod.alloc | refine Mod.setCell ?_ ?_ _ | refine Mod.put ?_ ?_ _) | focus (simp; done) | focus (simp; omega)))) (by simp) (by simp)) 8 t 0 0 owner o0 o1.out hmay).mono ?_; rintro en w4 ⟨rfl, hm4, h4⟩; rw [HCAS.out]; have hM4 : Mod w w4 [m, mb] := (by (repeat (first | with_reducible (first | exact hm4 | exact Mod.refl _ _ | apply Mod.drewN | apply Mod.drew | apply Mod.alloc | refine Mod.setCell ?_ ?_ _ | refine Mod.put ?_ ?_ _ | refine Mod.call ?_ hm4 ?_) | focus (simp; done) | focus (simp; omega)))); have hb4 := hb.mod hM4 (by simp; omega); clear c_hb_0 c_hb_1 c_hb_4 c_hb_6; have c_hb4_0 := hb4.cell 0; have c_hb4_1 := hb4.cell 1; have c_hb4_4 := hb4.cell 4; have c_hb4_6 := hb4.cell 6; have c_hb4_7 := hb4.cell 7; simp only [getRules] at c_hb4_0 c_hb4_1 c_hb4_4 c_hb4_6 c_hb4_7; have fz4 := hb4.frozen; have hl7 := hb4.lt)))
      go_wp2_with fail
      (first | go_end0 | refine bodyPost_ret (results_none (by kernel_rfl) _ _ _) rfl ?_)
      have hMs : Mod w4 ((w4.setCell ⟨b, 6, none⟩ (.int .i64 4)).setCell ⟨b, 0, none⟩ (.int .i64 6)) [b] := ((Mod.refl _ _).setCell (.inl (by simp)) _).setCell (.inl (by simp)) _
      exact ⟨rfl, (hM4.wider (by simp)).call hMs (by simp), h4.mod hMs (by simp; omega) (by simp; omega), (hb4.set_same 6 (.int .i64 4)).set_same 0 (.int .i64 6)⟩
    · have hk4 : ((k + 1 : Int) == 4) = false := by simp; omega
      have hk4' : ¬ k + 1 = 4 := by omega
      have es : (⟨4, block, word, e, owner, blocks, k, thread⟩ : JoinS).step σ = (⟨4, block, word, e, owner, blocks, k + 1, thread⟩, σ.cas 8 t 0 0 owner) := by
        simp [JoinS.step, HT.out, hcas, hk4']
      obtain ⟨rfl, rfl⟩ := Prod.mk.inj (HS.out.symm.trans es)
      have HCAS := Lib.hid hcas
      clear hcas es HS HT
      go_region_held3 (fun W => W.cell? ⟨b, 4, none⟩ = some (.int .u64 owner)) (first | assumption | (simp [go_sem, alloc_drewN, c_hb_4, hl]))
        (first | (go_at_call 138; go_must (refine (tof_any _ t 0).mono ?_; rintro en w3 ⟨rfl, rfl⟩)) | (go_at_call 136; go_must (refine (cas_any _ m mb σ (hm.mod (S := []) (by (repeat (first | with_reducible (first | exact Mod.refl _ _ | apply Mod.drewN | apply Mod.drew | apply Mod.alloc | refine Mod.setCell ?_ ?_ _ | refine Mod.put ?_ ?_ _) | focus (simp; done) | focus (simp; omega)))) (by simp) (by simp)) 8 t 0 0 owner o0 o1.out hmay).mono ?_; rintro en w4 ⟨rfl, hm4, h4⟩; rw [HCAS.out]; have hM4 : Mod w w4 [m, mb] := (by (repeat (first | with_reducible (first | exact hm4 | exact Mod.refl _ _ | apply Mod.drewN | apply Mod.drew | apply Mod.alloc | refine Mod.setCell ?_ ?_ _ | refine Mod.put ?_ ?_ _ | refine Mod.call ?_ hm4 ?_) | focus (simp; done) | focus (simp; omega)))); have hb4 := hb.mod hM4 (by simp; omega); clear c_hb_0 c_hb_1 c_hb_4 c_hb_6; have c_hb4_0 := hb4.cell 0; have c_hb4_1 := hb4.cell 1; have c_hb4_4 := hb4.cell 4; have c_hb4_6 := hb4.cell 6; have c_hb4_7 := hb4.cell 7; simp only [getRules] at c_hb4_0 c_hb4_1 c_hb4_4 c_hb4_6 c_hb4_7; have fz4 := hb4.frozen; have hl7 := hb4.lt)))
      go_wp2_with fail
      (first | go_end0 | refine bodyPost_ret (results_none (by kernel_rfl) _ _ _) rfl ?_)
      have hMs : Mod w4 (w4.setCell ⟨b, 6, none⟩ (.int .i64 (k + 1))) [b] := (Mod.refl _ _).setCell (.inl (by simp)) _
      exact ⟨rfl, (hM4.wider (by simp)).call hMs (by simp), h4.mod hMs (by simp; omega) (by simp; omega), hb4.set_same 6 (.int .i64 (k + 1))⟩
  · have es : (⟨4, block, word, e, owner, blocks, k, thread⟩ : JoinS).step σ = (⟨5, block, word, e, owner, blocks, 1, t⟩, σ.cas 8 t 0 0 owner) := by
      simp [JoinS.step, HT.out, hcas]
    obtain ⟨rfl, rfl⟩ := Prod.mk.inj (HS.out.symm.trans es)
    have HCAS := Lib.hid hcas
    clear hcas es HS HT
    go_region_held3 (fun W => W.cell? ⟨b, 4, none⟩ = some (.int .u64 owner)) (first | assumption | (simp [go_sem, alloc_drewN, c_hb_4, hl]))
      (first | (go_at_call 138; go_must (refine (tof_any _ t 0).mono ?_; rintro en w3 ⟨rfl, rfl⟩)) | (go_at_call 136; go_must (refine (cas_any _ m mb σ (hm.mod (S := []) (by (repeat (first | with_reducible (first | exact Mod.refl _ _ | apply Mod.drewN | apply Mod.drew | apply Mod.alloc | refine Mod.setCell ?_ ?_ _ | refine Mod.put ?_ ?_ _) | focus (simp; done) | focus (simp; omega)))) (by simp) (by simp)) 8 t 0 0 owner o0 o1.out hmay).mono ?_; rintro en w4 ⟨rfl, hm4, h4⟩; rw [HCAS.out]; have hM4 : Mod w w4 [m, mb] := (by (repeat (first | with_reducible (first | exact hm4 | exact Mod.refl _ _ | apply Mod.drewN | apply Mod.drew | apply Mod.alloc | refine Mod.setCell ?_ ?_ _ | refine Mod.put ?_ ?_ _ | refine Mod.call ?_ hm4 ?_) | focus (simp; done) | focus (simp; omega)))); have hb4 := hb.mod hM4 (by simp; omega); clear c_hb_0 c_hb_1 c_hb_4 c_hb_6; have c_hb4_0 := hb4.cell 0; have c_hb4_1 := hb4.cell 1; have c_hb4_4 := hb4.cell 4; have c_hb4_6 := hb4.cell 6; have c_hb4_7 := hb4.cell 7; simp only [getRules] at c_hb4_0 c_hb4_1 c_hb4_4 c_hb4_6 c_hb4_7; have fz4 := hb4.frozen; have hl7 := hb4.lt)))
    go_wp2_with fail
    (first | go_end0 | refine bodyPost_ret (results_none (by kernel_rfl) _ _ _) rfl ?_)
    have hMs : Mod w4 (((w4.setCell ⟨b, 7, none⟩ (.int .i64 t)).setCell ⟨b, 0, none⟩ (.int .i64 5)).setCell ⟨b, 6, none⟩ (.int .i64 1)) [b] := (((Mod.refl _ _).setCell (.inl (by simp)) _).setCell (.inl (by simp)) _).setCell (.inl (by simp)) _
    exact ⟨rfl, (hM4.wider (by simp)).call hMs (by simp), h4.mod hMs (by simp; omega) (by simp; omega), ((hb4.set_same 7 (.int .i64 t)).set_same 0 (.int .i64 5)).set_same 6 (.int .i64 1)⟩

set_option maxRecDepth 100000 in
set_option maxHeartbeats 2000000 in
theorem joinClear (w : World) (b m mb : Nat) (σ : MS) (j : JoinS) (j' : JoinS) (σ' : MS) (hs : j.step σ = (j', σ')) (hj : j.line = 5) (t0 : 0 ≤ j.thread) (t1 : j.thread < 16) (k0 : 0 ≤ j.k) (k1 : j.k < 10) (hb : Has w b j.obj) (hm : MemAt w m mb σ) (n1 : b ≠ m) (n2 : b ≠ mb) :
    Calls Tryd.prog 95 #[.pointer (some ⟨b, 0, none⟩), .pointer (some ⟨m, 0, none⟩)] w (TLeft w b m mb j'.obj σ') := by
  obtain ⟨line, block, word, e, owner, blocks, k, t⟩ := j
  subst hj
  simp only at t0 t1 k0 k1
  have HS := Lib.hid hs
  clear hs
  unfold JoinS.obj at hb
  have hl := hb.lt
  have hl1 := hm.lt
  have hl2 := hm.ltb
  have hmay : mayA 8 t k = true := by
    simp [mayA, roomAt, roomF]
    omega
  have c_hb_0 := hb.cell 0; have c_hb_3 := hb.cell 3; have c_hb_6 := hb.cell 6; have c_hb_7 := hb.cell 7; simp only [getRules] at c_hb_0 c_hb_3 c_hb_6 c_hb_7
  go_enter Tryd.func95, Tryd.ntmps95
  go_wp2_with fail
  go_region_held3 (fun W => W.cell? ⟨b, 7, none⟩ = some (.int .i64 t) ∧ W.cell? ⟨b, 6, none⟩ = some (.int .i64 k)) (first | exact ⟨by assumption, by assumption⟩ | (simp [go_sem, c_hb_6, c_hb_7, hl]))
    (first | (go_at_call 138; go_must (refine (tof_any _ t k).mono ?_; rintro en w3 ⟨rfl, rfl⟩)) | (go_at_call 11; go_must (refine (store_any _ m mb σ (hm.mod (S := []) (by (repeat (first | with_reducible (first | exact Mod.refl _ _ | apply Mod.drewN | apply Mod.drew | apply Mod.alloc | refine Mod.setCell ?_ ?_ _ | refine Mod.put ?_ ?_ _) | focus (simp; done) | focus (simp; omega)))) (by simp) (by simp)) 8 t k 0 (by omega) (by omega) hmay).mono ?_; rintro en w4 ⟨rfl, hm4, h4⟩; have hM4 : Mod w w4 [m, mb] := (by (repeat (first | with_reducible (first | exact hm4 | exact Mod.refl _ _ | apply Mod.drewN | apply Mod.drew | apply Mod.alloc | refine Mod.setCell ?_ ?_ _ | refine Mod.put ?_ ?_ _ | refine Mod.call ?_ hm4 ?_) | focus (simp; done) | focus (simp; omega)))); have hb4 := hb.mod hM4 (by simp; omega); clear c_hb_0 c_hb_3 c_hb_6 c_hb_7; have c_hb4_0 := hb4.cell 0; have c_hb4_3 := hb4.cell 3; have c_hb4_6 := hb4.cell 6; have c_hb4_7 := hb4.cell 7; simp only [getRules] at c_hb4_0 c_hb4_3 c_hb4_6 c_hb4_7; have fz4 := hb4.frozen; have hl7 := hb4.lt)))
  rcases (show k = 9 ∨ k < 9 by omega) with hk9 | hk9
  · subst hk9
    have es : (⟨5, block, word, e, owner, blocks, 9, t⟩ : JoinS).step σ = (⟨0, block, word, 0, owner, blocks, 10, t⟩, σ.store 8 t 9 0) := by simp [JoinS.step]
    obtain ⟨rfl, rfl⟩ := Prod.mk.inj (HS.out.symm.trans es)
    clear es HS
    go_wp2_with fail
    have hMs : Mod w4 (w4.setCell ⟨b, 6, none⟩ (.int .i64 10)) [b] := (Mod.refl _ _).setCell (.inl (by simp)) _
    refine (tend_any _ b _ _ _ _ 0 (hb4.set_same 6 (.int .i64 10)) rfl rfl).mono ?_
    rintro en w5 ⟨rfl, hM5, hb5⟩
    go_wp2
    (first | go_end0 | refine bodyPost_ret (results_none (by kernel_rfl) _ _ _) rfl ?_)
    exact ⟨rfl, ((hM4.wider (by simp)).call hMs (by simp)).call hM5 (by simp), (h4.mod hMs (by simp; omega) (by simp; omega)).mod hM5 (by simp; omega) (by simp; omega), hb5⟩
  · have hk10 : ((k + 1 : Int) == 10) = false := by simp; omega
    have hk10' : ¬ k + 1 = 10 := by omega
    have es : (⟨5, block, word, e, owner, blocks, k, t⟩ : JoinS).step σ = (⟨5, block, word, e, owner, blocks, k + 1, t⟩, σ.store 8 t k 0) := by simp [JoinS.step, hk10']
    obtain ⟨rfl, rfl⟩ := Prod.mk.inj (HS.out.symm.trans es)
    clear es HS
    go_wp2_with fail
    (first | go_end0 | refine bodyPost_ret (results_none (by kernel_rfl) _ _ _) rfl ?_)
    have hMs : Mod w4 (w4.setCell ⟨b, 6, none⟩ (.int .i64 (k + 1))) [b] := (Mod.refl _ _).setCell (.inl (by simp)) _
    exact ⟨rfl, (hM4.wider (by simp)).call hMs (by simp), h4.mod hMs (by simp; omega) (by simp; omega), hb4.set_same 6 (.int .i64 (k + 1))⟩

set_option maxRecDepth 100000 in
set_option maxHeartbeats 2000000 in
theorem tless_any (w : World) (hf : FieldsAt w) (b m mb : Nat) (σ : MS) (cs : Array Value) (T : TypeId) (block word : Int) (w0 : 0 ≤ word) (w1 : Hid (word < 18446744073709551616)) (hN1 : 1 ≤ blkN word) (hmay : mayA 7 block 0 = true) (hb : Has w b (.cells cs T)) (c1 : cs[1]? = some (.int .i64 block)) (c2 : cs[2]? = some (.int .u64 word)) (hm : MemAt w m mb σ) (n1 : b ≠ m) (n2 : b ≠ mb) (n3 : 0 ≠ m) :
    Calls Tryd.prog 139 #[.pointer (some ⟨b, 0, none⟩), .pointer (some ⟨m, 0, none⟩)] w fun e w' =>
      e = .returned (.bool (σ.g 7 block 0 == word)) ∧ Mod w w' [m, mb] ∧ MemAt w' m mb (σ.cas 7 block 0 word (blockW (blkN word - 1) (blkC word))) ∧ Has w' b (.cells cs T) := by
  have hl := hb.lt
  have hl1 := hm.lt
  have hl2 := hm.ltb
  have hfl := hf.lt
  have hn32 : blkN word < 4294967296 := by unfold blkN; omega
  have hbw := blockW_range (n := blkN word - 1) (by omega) (by omega) (blkC word)
  have bw0 := hbw.1
  have BW1 := Lib.hid hbw.2
  have hw32 : IntKind.u32.wrap (blkN word - 1) = blkN word - 1 := by rw [IntKind.wrap_u32]; omega
  clear hbw
  have d1 := hb.cell 1
  have d2 := hb.cell 2
  rw [c1] at d1
  rw [c2] at d2
  go_enter Tryd.func139, Tryd.ntmps139
  go_wp2_with fail
  refine (asBlock_any w hf word w0 w1.out).mono ?_
  rintro en w2 ⟨rfl, n, rfl⟩
  generalize hN : blkN word = N at *
  generalize hCC : blkC word = C at *
  have HN := Lib.hid hN
  have HC := Lib.hid hCC
  clear hN hCC
  have hN1' : ¬ N < 1 := by omega
  have hmax : (if N < 1 then (1 : Int) else N) = N := by rw [if_neg hN1']
  go_wp2_with fail
  have hM1 : Mod w (w.drewN n) [] := (Mod.refl _ _).drewN n
  have hb1 := hb.drewN n
  have hm1 := hm.mod hM1 (by simp) (by simp)
  have hf1 := hf.mod hM1 (by simp)
  clear d1 d2 hb hm hf
  generalize w.drewN n = W1 at hM1 hb1 hm1 hf1 ⊢
  have d1 := hb1.cell 1
  have d2 := hb1.cell 2
  rw [c1] at d1
  rw [c2] at d2
  have hl3 := hb1.lt
  have hl4 := hm1.lt
  have hl5 := hm1.ltb
  have hl6 := hf1.lt
  go_region_held3 (fun W => W.cell? ⟨b, 2, none⟩ = some (.int .u64 word)) (first | assumption | (simp [go_sem, d2, hl3]))
    (first | (go_at_call 137; go_must (refine (tat_at _ b block (by simp [go_sem, d1]) (by simp; exact hl3)).mono ?_; rintro en w3 ⟨rfl, rfl⟩)) | (go_at_call 12; go_must (refine (block_any _ (hf1.mod (S := []) (by (repeat (first | with_reducible (first | exact Mod.refl _ _ | apply Mod.drewN | apply Mod.drew | apply Mod.alloc | refine Mod.setCell ?_ ?_ _ | refine Mod.put ?_ ?_ _) | focus (simp; done) | focus (simp; omega)))) (by first | (simp; done) | (simp; omega))) (N - 1) C (by omega) (by omega)).mono ?_; rintro en w3 ⟨rfl, n5, rfl⟩)) | (go_at_call 136; go_must (refine (cas_any _ m mb σ (hm1.mod (S := []) (by (repeat (first | with_reducible (first | exact Mod.refl _ _ | apply Mod.drewN | apply Mod.drew | apply Mod.alloc | refine Mod.setCell ?_ ?_ _ | refine Mod.put ?_ ?_ _) | focus (simp; done) | focus (simp; omega)))) (by simp) (by simp)) 7 block 0 word (blockW (N - 1) C) bw0 BW1.out hmay).mono ?_; rintro en w4 ⟨rfl, hm4, h4⟩; have hM4 : Mod W1 w4 [m, mb] := (by (repeat (first | with_reducible (first | exact hm4 | exact Mod.refl _ _ | apply Mod.drewN | apply Mod.drew | apply Mod.alloc | refine Mod.setCell ?_ ?_ _ | refine Mod.put ?_ ?_ _ | refine Mod.call ?_ hm4 ?_) | focus (simp; done) | focus (simp; omega)))); have hb4 := hb1.mod hM4 (by simp; omega); have d4 := hb4.cell 2; rw [c2] at d4)))
  all_goals
    go_wp2_with fail
    go_ret
    rw [HN.out, HC.out]
    exact ⟨rfl, (hM1.wider (by simp)).call hM4 (fun c hc => .inl hc), h4, hb4⟩

set_option maxRecDepth 100000 in
set_option maxHeartbeats 2000000 in
theorem joinBack (w : World) (hf : FieldsAt w) (b m mb : Nat) (σ : MS) (j : JoinS) (j' : JoinS) (σ' : MS) (hs : j.step σ = (j', σ')) (hj : j.line = 6) (hb : Has w b j.obj) (hm : MemAt w m mb σ) (n1 : b ≠ m) (n2 : b ≠ mb) (n3 : 0 ≠ m) (n4 : 0 ≠ b) :
    Calls Tryd.prog 96 #[.pointer (some ⟨b, 0, none⟩), .pointer (some ⟨m, 0, none⟩)] w (TLeft w b m mb j'.obj σ') := by
  obtain ⟨line, block, word, e, owner, blocks, k, t⟩ := j
  subst hj
  have es : (⟨6, block, word, e, owner, blocks, k, t⟩ : JoinS).step σ = (⟨7, block, σ.g 7 block 0, e, owner, blocks, k, t⟩, σ.load 7 block 0) := by simp [JoinS.step]
  obtain ⟨rfl, rfl⟩ := Prod.mk.inj (hs.symm.trans es)
  clear hs es
  unfold JoinS.obj at hb
  have hl := hb.lt
  have hl1 := hm.lt
  have hl2 := hm.ltb
  go_enter Tryd.func96, Tryd.ntmps96
  go_wp2_with fail
  refine (tload_any w hf b m mb σ _ _ block (.int .u64 word) hb rfl rfl hm n1 n2 n3 n4).mono ?_
  rintro en w1 ⟨rfl, hM1, hm1, hb1⟩
  simp only [List.setIfInBounds_toArray, List.set_cons_succ, List.set_cons_zero] at hb1
  have c_hb1_0 := hb1.cell 0; simp only [getRules] at c_hb1_0
  have fz := hb1.frozen
  have hl3 := hb1.lt
  go_wp2_with fail
  (first | go_end0 | refine bodyPost_ret (results_none (by kernel_rfl) _ _ _) rfl ?_)
  have hMf : Mod w1 (w1.setCell ⟨b, 0, none⟩ (.int .i64 7)) [b] := (Mod.refl _ _).setCell (.inl (by simp)) _
  exact ⟨rfl, (hM1.wider (by simp)).call hMf (by simp), hm1.mod hMf (by simp; omega) (by simp; omega), hb1.set_same 0 (.int .i64 7)⟩

set_option maxRecDepth 100000 in
set_option maxHeartbeats 2000000 in
theorem joinUndo (w : World) (hf : FieldsAt w) (b m mb : Nat) (σ : MS) (j : JoinS) (j' : JoinS) (σ' : MS) (hs : j.step σ = (j', σ')) (hj : j.line = 7) (w0 : 0 ≤ j.word) (w1 : Hid (j.word < 18446744073709551616)) (hN1 : 1 ≤ blkN j.word) (hmay : mayA 7 j.block 0 = true) (hb : Has w b j.obj) (hm : MemAt w m mb σ) (n1 : b ≠ m) (n2 : b ≠ mb) (n3 : 0 ≠ m) (n4 : 0 ≠ b) :
    Calls Tryd.prog 97 #[.pointer (some ⟨b, 0, none⟩), .pointer (some ⟨m, 0, none⟩)] w (TLeft w b m mb j'.obj σ') := by
  obtain ⟨line, block, word, e, owner, blocks, k, t⟩ := j
  subst hj
  simp only at w0 w1 hN1 hmay
  have HS := Lib.hid hs
  clear hs
  unfold JoinS.obj at hb
  have hl := hb.lt
  have hl1 := hm.lt
  have hl2 := hm.ltb
  have fz := hb.frozen
  have c_hb_0 := hb.cell 0; simp only [getRules] at c_hb_0
  go_enter Tryd.func97, Tryd.ntmps97
  go_wp2_with fail
  have hMs : Mod w (w.setCell ⟨b, 0, none⟩ (.int .i64 6)) [b] := (Mod.refl _ _).setCell (.inl (by simp)) _
  have hb2 := hb.set_same 0 (.int .i64 6)
  simp only [List.setIfInBounds_toArray, List.set_cons_zero] at hb2
  have hm2 := hm.mod hMs (by simp; omega) (by simp; omega)
  have hf2 := hf.mod hMs (by simp; omega)
  generalize w.setCell ⟨b, 0, none⟩ (.int .i64 6) = w2 at hMs hb2 hm2 hf2 ⊢
  clear c_hb_0 fz
  refine (tless_any w2 hf2 b m mb σ _ _ block word w0 w1 hN1 hmay hb2 rfl rfl hm2 n1 n2 n3).mono ?_
  rintro en w3 ⟨rfl, hM3, hm3, hb3⟩
  cases hcas : (σ.g 7 block 0 == word)
  · have es : (⟨7, block, word, e, owner, blocks, k, t⟩ : JoinS).step σ = (⟨6, block, word, e, owner, blocks, k, t⟩, σ.cas 7 block 0 word (blockW (blkN word - 1) (blkC word))) := by simp [JoinS.step, hcas]
    obtain ⟨rfl, rfl⟩ := Prod.mk.inj (HS.out.symm.trans es)
    clear es HS hcas
    go_wp2_with fail
    (first | go_end0 | refine bodyPost_ret (results_none (by kernel_rfl) _ _ _) rfl ?_)
    exact ⟨rfl, (hMs.wider (by simp)).call hM3 (by simp), hm3, hb3⟩
  · have es : (⟨7, block, word, e, owner, blocks, k, t⟩ : JoinS).step σ = (⟨0, block, word, 7, owner, blocks, k, t⟩, σ.cas 7 block 0 word (blockW (blkN word - 1) (blkC word))) := by simp [JoinS.step, hcas]
    obtain ⟨rfl, rfl⟩ := Prod.mk.inj (HS.out.symm.trans es)
    clear es HS hcas
    have hl3 := hb3.lt
    go_wp2_with fail
    refine (tend_any _ b _ _ _ _ 7 hb3 rfl rfl).mono ?_
    rintro en w5 ⟨rfl, hM5, hb5⟩
    go_wp2
    (first | go_end0 | refine bodyPost_ret (results_none (by kernel_rfl) _ _ _) rfl ?_)
    exact ⟨rfl, ((hMs.wider (by simp)).call hM3 (by simp)).call hM5 (by simp), hm3.mod hM5 (by simp; omega) (by simp; omega), hb5⟩

end Go.Proofs.YtghkdkdlbkmicaaDoor
