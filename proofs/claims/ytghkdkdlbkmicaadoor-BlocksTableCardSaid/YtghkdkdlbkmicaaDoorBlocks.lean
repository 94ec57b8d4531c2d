/- Blocks of threads that come, and go: what each step of a More, of a Less, does. -/
import Derived.Test.YtghkdkdlbkmicaaDoorBlockWords
namespace Go.Proofs.YtghkdkdlbkmicaaDoor
open Go.RowKit

theorem bcount_any (w : World) : Calls Tryd.prog 155 #[] w fun e w' => e = .returned (K 5 0 0) ∧ w.alloc (.cells #[.int .u8 5, .int .i64 0, .int .i64 0] 31) = w' := by
  go_enter Tryd.func155, Tryd.ntmps155
  go_wp2
  refine bodyPost_ret (v := K 5 0 0) ?_ rfl ⟨rfl, rfl⟩
  simp [results, Tryd.results155, go_sem, K]

theorem bend_any (w : World) (b : Nat) (cs : Array Value) (T : TypeId) (x0 x2 : Value) (e : Int) (h : Has w b (.cells cs T)) (c0 : cs[0]? = some x0) (c2 : cs[2]? = some x2) :
    Calls Tryd.prog 154 #[.pointer (some ⟨b, 0, none⟩), .int .i64 e] w fun en w' => en = .returned (.tuple #[]) ∧ Mod w w' [b] ∧ Has w' b (.cells ((cs.setIfInBounds 0 (.int .i64 0)).setIfInBounds 2 (.int .i64 e)) T) := by
  have d0 := h.cell 0
  have d2 := h.cell 2
  rw [c0] at d0
  rw [c2] at d2
  have hl := h.lt
  have fz := h.frozen
  go_enter Tryd.func154, Tryd.ntmps154
  go_wp2
  (first | go_end0 | refine bodyPost_ret (results_none (by kernel_rfl) _ _ _) rfl ?_)
  exact ⟨rfl, ((Mod.refl _ _).setCell (.inl (by simp)) _).setCell (.inl (by simp)) _, (h.set_same 0 _).set_same 2 _⟩

theorem bover_any (w : World) (b : Nat) (l : Int) (cs : Array Value) (T : TypeId) (h : Has w b (.cells cs T)) (c0 : cs[0]? = some (.int .i64 l)) :
    Calls Tryd.prog 152 #[.pointer (some ⟨b, 0, none⟩)] w fun e w' => e = .returned (.bool (l == 0)) ∧ w = w' := by
  have d0 := h.cell 0
  rw [c0] at d0
  go_enter Tryd.func152, Tryd.ntmps152
  go_wp2
  go_ret
  exact ⟨rfl, rfl⟩

set_option maxHeartbeats 1000000 in
theorem bload_any (w : World) (b m mb : Nat) (σ : MS) (cs : Array Value) (T : TypeId) (x1 : Value) (h : Has w b (.cells cs T)) (c1 : cs[1]? = some x1) (hm : MemAt w m mb σ) (n1 : b ≠ m) (n2 : b ≠ mb) :
    Calls Tryd.prog 153 #[.pointer (some ⟨b, 0, none⟩), .pointer (some ⟨m, 0, none⟩)] w fun e w' =>
      e = .returned (.int .u64 (σ.g 5 0 0)) ∧ Mod w w' [m, b] ∧ MemAt w' m mb (σ.load 5 0 0) ∧ Has w' b (.cells (cs.setIfInBounds 1 (.int .u64 (σ.g 5 0 0))) T) := by
  have hl := h.lt
  have hl1 := hm.lt
  have hl2 := hm.ltb
  go_enter Tryd.func153, Tryd.ntmps153
  go_wp2_with fail
  refine (bcount_any w).mono ?_
  rintro e w1 ⟨rfl, hw1⟩
  have hM1 : Mod w w1 [] := by
    rw [← hw1]
    exact (Mod.refl _ _).alloc _
  clear hw1
  have h1 := h.mod hM1 (by simp)
  have hm1 := hm.mod hM1 (by simp) (by simp)
  go_wp2_with fail
  refine (load_any w1 m mb σ hm1 5 0 0).mono ?_
  rintro e w2 ⟨rfl, hM2, hm2⟩
  have h2 := h1.mod hM2 (by simp; omega)
  have d1 := h2.cell 1
  rw [c1] at d1
  have fz := h2.frozen
  have hl3 := h2.lt
  generalize hg : σ.g 5 0 0 = x at *
  have HG := Lib.hid hg
  clear hg
  go_wp2_with fail
  have hMs : Mod w2 (w2.setCell ⟨b, 1, none⟩ (.int .u64 x)) [b] := (Mod.refl _ _).setCell (.inl (by simp)) _
  go_ret
  rw [HG.out]
  exact ⟨rfl, ((hM1.wider (by simp)).call hM2 (by simp)).call hMs (by simp), hm2.mod hMs (by simp; omega) (by simp; omega), h2.set_same 1 _⟩

set_option maxRecDepth 100000 in
set_option maxHeartbeats 1000000 in
theorem turn_any (w : World) (hf : FieldsAt w) (m mb : Nat) (σ : MS) (hm : MemAt w m mb σ) (k : Int) (c : Bool) (k0 : 0 ≤ k) (k4 : k < 4) (_n3 : 0 ≠ m) :
    Calls Tryd.prog 156 #[.pointer (some ⟨m, 0, none⟩), .int .u64 k, .bool c] w fun e w' =>
      e = .returned (.bool (σ.g 7 k 0 == blockW 0 (!c))) ∧ Mod w w' [m, mb] ∧ MemAt w' m mb (σ.cas 7 k 0 (blockW 0 (!c)) (blockW 0 c)) := by
  have hmay : mayA 7 k 0 = true := by
    simp [mayA, roomAt, roomF]
    omega
  have hw : IntKind.i64.wrap k = k := by
    rw [IntKind.wrap_i64]
    omega
  have hr := blockW_range (n := 0) (by omega) (by omega) c
  have r0 := hr.1
  have R1 := Lib.hid hr.2
  clear hr
  go_enter Tryd.func156, Tryd.ntmps156
  go_wp2_with fail
  refine (block_any w hf 0 (!c) (by omega) (by omega)).mono ?_
  rintro en w1 ⟨rfl, k1, rfl⟩
  go_wp2_with fail
  refine (block_any _ (hf.drewN k1) 0 c (by omega) (by omega)).mono ?_
  rintro en w2 ⟨rfl, k2, rfl⟩
  have hM : Mod w ((w.drewN k1).drewN k2) [] := ((Mod.refl _ _).drewN k1).drewN k2
  have hm2 := hm.mod hM (by simp) (by simp)
  generalize (w.drewN k1).drewN k2 = w2 at hM hm2 ⊢
  generalize hB1 : blockW 0 c = B1 at *
  generalize hB0 : blockW 0 (!c) = B0 at *
  have HB1 := Lib.hid hB1
  have HB0 := Lib.hid hB0
  clear hB1 hB0
  go_wp2_with fail
  refine (cas_any w2 m mb σ hm2 7 k 0 B0 B1 r0 R1.out hmay).mono ?_
  rintro en w3 ⟨rfl, hM3, hm3⟩
  go_wp2
  go_ret
  rw [HB1.out, HB0.out]
  exact ⟨rfl, (hM.wider (by simp)).call hM3 (by simp), hm3⟩

/-- A More, or a Less. -/
structure BlkS where
  line : Int
  blocks : Int
  e : Int
def BlkS.obj (j : BlkS) (T : TypeId) : Obj := .cells #[.int .i64 j.line, .int .u64 j.blocks, .int .i64 j.e] T
def BlkS.new : BlkS := ⟨1, 0, 0⟩
def BlkS.more (j : BlkS) (σ : MS) : BlkS × MS :=
  if j.line = 1 then (if 4 ≤ σ.g 5 0 0 then ⟨0, σ.g 5 0 0, 5⟩ else ⟨2, σ.g 5 0 0, j.e⟩, σ.load 5 0 0)
  else if j.line = 2 then (if (σ.g 5 0 0 == j.blocks) = true then { j with line := 3 } else { j with line := 1 }, σ.cas 5 0 0 j.blocks (j.blocks + 1))
  else if j.line = 3 then ({ j with line := 0, e := 0 }, σ.cas 7 j.blocks 0 (blockW 0 true) (blockW 0 false))
  else (j, σ)
/-- (Its fourth line is left out: nobody else turns the number of blocks.) -/
def BlkS.less (j : BlkS) (σ : MS) : BlkS × MS :=
  if j.line = 1 then (if σ.g 5 0 0 ≤ 1 then ⟨0, σ.g 5 0 0, 4⟩ else ⟨2, σ.g 5 0 0, j.e⟩, σ.load 5 0 0)
  else if j.line = 2 then (if (σ.g 7 (j.blocks - 1) 0 == blockW 0 false) = true then { j with line := 3 } else { j with line := 0, e := 7 }, σ.cas 7 (j.blocks - 1) 0 (blockW 0 false) (blockW 0 true))
  else if j.line = 3 then (if (σ.g 5 0 0 == j.blocks) = true then { j with line := 0, e := 0 } else { j with line := 4 }, σ.cas 5 0 0 j.blocks (j.blocks - 1))
  else (j, σ)

def BLeft (w : World) (b m mb : Nat) (o : Obj) (σ : MS) (e : Ending) (w' : World) : Prop :=
  e = .returned (.tuple #[]) ∧ Mod w w' [m, mb, b] ∧ MemAt w' m mb σ ∧ Has w' b o

set_option maxRecDepth 100000 in
set_option maxHeartbeats 2000000 in
theorem moreFirst (w : World) (b m mb : Nat) (σ : MS) (j : BlkS) (j' : BlkS) (σ' : MS) (hs : j.more σ = (j', σ')) (hj : j.line = 1) (x1 : 1 ≤ σ.g 5 0 0) (x4 : σ.g 5 0 0 ≤ 4) (hb : Has w b (j.obj 177)) (hm : MemAt w m mb σ) (n1 : b ≠ m) (n2 : b ≠ mb) :
    Calls Tryd.prog 126 #[.pointer (some ⟨b, 0, none⟩), .pointer (some ⟨m, 0, none⟩)] w (BLeft w b m mb (j'.obj 177) σ') := by
  obtain ⟨line, blocks, e⟩ := j
  subst hj
  have HS := Lib.hid hs
  clear hs
  unfold BlkS.obj at hb
  have hl := hb.lt
  have hl1 := hm.lt
  have hl2 := hm.ltb
  have fz := hb.frozen
  have c0 := hb.cell 0
  simp only [getRules] at c0
  go_enter Tryd.func126, Tryd.ntmps126
  go_wp2_with fail
  have hMs : Mod w (w.setCell ⟨b, 0, none⟩ (.int .i64 2)) [b] := (Mod.refl _ _).setCell (.inl (by simp)) _
  have hb2 := hb.set_same 0 (.int .i64 2)
  simp only [List.setIfInBounds_toArray, List.set_cons_zero] at hb2
  have hm2 := hm.mod hMs (by simp; omega) (by simp; omega)
  generalize w.setCell ⟨b, 0, none⟩ (.int .i64 2) = w2 at hMs hb2 hm2 ⊢
  clear c0 fz
  refine (bload_any w2 b m mb σ _ _ _ hb2 rfl hm2 n1 n2).mono ?_
  rintro en w3 ⟨rfl, hM3, hm3, hb3⟩
  simp only [List.setIfInBounds_toArray, List.set_cons_succ, List.set_cons_zero] at hb3
  generalize hg : σ.g 5 0 0 = x at *
  have HG := Lib.hid hg
  clear hg
  have fz := hb3.frozen
  have hl3 := hb3.lt
  by_cases hx : 4 ≤ x
  · have es : (⟨1, blocks, e⟩ : BlkS).more σ = (⟨0, x, 5⟩, σ.load 5 0 0) := by simp [BlkS.more, HG.out, hx]
    obtain ⟨rfl, rfl⟩ := Prod.mk.inj (HS.out.symm.trans es)
    clear es HS
    go_wp2_with fail
    refine (bend_any _ b _ _ _ _ 5 hb3 rfl rfl).mono ?_
    rintro en w5 ⟨rfl, hM5, hb5⟩
    go_wp2
    (first | go_end0 | refine bodyPost_ret (results_none (by kernel_rfl) _ _ _) rfl ?_)
    exact ⟨rfl, ((hMs.wider (by simp)).call hM3 (by simp)).call hM5 (by simp), hm3.mod hM5 (by simp; omega) (by simp; omega), hb5⟩
  · have es : (⟨1, blocks, e⟩ : BlkS).more σ = (⟨2, x, e⟩, σ.load 5 0 0) := by simp [BlkS.more, HG.out, hx]
    obtain ⟨rfl, rfl⟩ := Prod.mk.inj (HS.out.symm.trans es)
    clear es HS
    go_wp2_with fail
    (first | go_end0 | refine bodyPost_ret (results_none (by kernel_rfl) _ _ _) rfl ?_)
    exact ⟨rfl, (hMs.wider (by simp)).call hM3 (by simp), hm3, hb3⟩

set_option maxRecDepth 100000 in
set_option maxHeartbeats 2000000 in
theorem lessFirst (w : World) (b m mb : Nat) (σ : MS) (j : BlkS) (j' : BlkS) (σ' : MS) (hs : j.less σ = (j', σ')) (hj : j.line = 1) (x1 : 1 ≤ σ.g 5 0 0) (x4 : σ.g 5 0 0 ≤ 4) (hb : Has w b (j.obj 178)) (hm : MemAt w m mb σ) (n1 : b ≠ m) (n2 : b ≠ mb) :
    Calls Tryd.prog 130 #[.pointer (some ⟨b, 0, none⟩), .pointer (some ⟨m, 0, none⟩)] w (BLeft w b m mb (j'.obj 178) σ') := by
  obtain ⟨line, blocks, e⟩ := j
  subst hj
  have HS := Lib.hid hs
  clear hs
  unfold BlkS.obj at hb
  have hl := hb.lt
  have hl1 := hm.lt
  have hl2 := hm.ltb
  have fz := hb.frozen
  have c0 := hb.cell 0
  simp only [getRules] at c0
  go_enter Tryd.func130, Tryd.ntmps130
  go_wp2_with fail
  have hMs : Mod w (w.setCell ⟨b, 0, none⟩ (.int .i64 2)) [b] := (Mod.refl _ _).setCell (.inl (by simp)) _
  have hb2 := hb.set_same 0 (.int .i64 2)
  simp only [List.setIfInBounds_toArray, List.set_cons_zero] at hb2
  have hm2 := hm.mod hMs (by simp; omega) (by simp; omega)
  generalize w.setCell ⟨b, 0, none⟩ (.int .i64 2) = w2 at hMs hb2 hm2 ⊢
  clear c0 fz
  refine (bload_any w2 b m mb σ _ _ _ hb2 rfl hm2 n1 n2).mono ?_
  rintro en w3 ⟨rfl, hM3, hm3, hb3⟩
  simp only [List.setIfInBounds_toArray, List.set_cons_succ, List.set_cons_zero] at hb3
  generalize hg : σ.g 5 0 0 = x at *
  have HG := Lib.hid hg
  clear hg
  have fz := hb3.frozen
  have hl3 := hb3.lt
  by_cases hx : x ≤ 1
  · have es : (⟨1, blocks, e⟩ : BlkS).less σ = (⟨0, x, 4⟩, σ.load 5 0 0) := by simp [BlkS.less, HG.out, hx]
    obtain ⟨rfl, rfl⟩ := Prod.mk.inj (HS.out.symm.trans es)
    clear es HS
    go_wp2_with fail
    refine (bend_any _ b _ _ _ _ 4 hb3 rfl rfl).mono ?_
    rintro en w5 ⟨rfl, hM5, hb5⟩
    go_wp2
    (first | go_end0 | refine bodyPost_ret (results_none (by kernel_rfl) _ _ _) rfl ?_)
    exact ⟨rfl, ((hMs.wider (by simp)).call hM3 (by simp)).call hM5 (by simp), hm3.mod hM5 (by simp; omega) (by simp; omega), hb5⟩
  · have es : (⟨1, blocks, e⟩ : BlkS).less σ = (⟨2, x, e⟩, σ.load 5 0 0) := by simp [BlkS.less, HG.out, hx]
    obtain ⟨rfl, rfl⟩ := Prod.mk.inj (HS.out.symm.trans es)
    clear es HS
    go_wp2_with fail
    (first | go_end0 | refine bodyPost_ret (results_none (by kernel_rfl) _ _ _) rfl ?_)
    exact ⟨rfl, (hMs.wider (by simp)).call hM3 (by simp), hm3, hb3⟩

set_option maxRecDepth 100000 in
set_option maxHeartbeats 2000000 in
theorem moreGrow (w : World) (b m mb : Nat) (σ : MS) (j : BlkS) (j' : BlkS) (σ' : MS) (hs : j.more σ = (j', σ')) (hj : j.line = 2) (x1 : 1 ≤ j.blocks) (x4 : j.blocks ≤ 4) (hb : Has w b (j.obj 177)) (hm : MemAt w m mb σ) (n1 : b ≠ m) (n2 : b ≠ mb) :
    Calls Tryd.prog 127 #[.pointer (some ⟨b, 0, none⟩), .pointer (some ⟨m, 0, none⟩)] w (BLeft w b m mb (j'.obj 177) σ') := by
  obtain ⟨line, blocks, e⟩ := j
  subst hj
  have HS := Lib.hid hs
  clear hs
  unfold BlkS.obj at hb
  have hl := hb.lt
  have hl1 := hm.lt
  have hl2 := hm.ltb
  have fz := hb.frozen
  simp only at x1 x4
  have hw : IntKind.u64.wrap (blocks + 1) = blocks + 1 := by
    rw [wrap_u64_eq]
    omega
  have c0 := hb.cell 0
  simp only [getRules] at c0
  go_enter Tryd.func127, Tryd.ntmps127
  go_wp2_with fail
  have hMs : Mod w (w.setCell ⟨b, 0, none⟩ (.int .i64 1)) [b] := (Mod.refl _ _).setCell (.inl (by simp)) _
  have hb2 := hb.set_same 0 (.int .i64 1)
  simp only [List.setIfInBounds_toArray, List.set_cons_zero] at hb2
  have hm2 := hm.mod hMs (by simp; omega) (by simp; omega)
  generalize w.setCell ⟨b, 0, none⟩ (.int .i64 1) = w2 at hMs hb2 hm2 ⊢
  clear c0 fz
  have d1 := hb2.cell 1
  simp only [getRules] at d1
  have hl3 := hb2.lt
  have hl4 := hm2.lt
  have hl5 := hm2.ltb
  cases hcas : (σ.g 5 0 0 == blocks)
  all_goals
    have HCAS := Lib.hid hcas
    clear hcas
    go_region_held3 (fun W => W.cell? ⟨b, 1, none⟩ = some (.int .u64 blocks)) (first | assumption | (simp [go_sem, d1, hl3]))
      (first | (go_at_call 155; go_must (refine (bcount_any _).mono ?_; rintro en w3 ⟨rfl, rfl⟩)) | (go_at_call 136; go_must (refine (cas_any _ m mb σ (hm2.mod (S := []) (by (repeat (first | with_reducible (first | exact Mod.refl _ _ | apply Mod.drewN | apply Mod.drew | apply Mod.alloc | refine Mod.setCell ?_ ?_ _ | refine Mod.put ?_ ?_ _) | focus (simp; done) | focus (simp; omega)))) (by simp) (by simp)) 5 0 0 blocks (blocks + 1) (by omega) (by omega) (by decide)).mono ?_; rintro en w4 ⟨rfl, hm4, h4⟩; rw [HCAS.out]; have hM4 : Mod w2 w4 [m, mb] := (by (repeat (first | with_reducible (first | exact hm4 | exact Mod.refl _ _ | apply Mod.drewN | apply Mod.drew | apply Mod.alloc | refine Mod.setCell ?_ ?_ _ | refine Mod.put ?_ ?_ _ | refine Mod.call ?_ hm4 ?_) | focus (simp; done) | focus (simp; omega)))); have hb4 := hb2.mod hM4 (by simp; omega); have d4 := hb4.cell 0; have d5 := hb4.cell 1; simp only [getRules] at d4 d5; clear d1; have fz4 := hb4.frozen; have hl7 := hb4.lt)))
    have es := HS.out
    simp [BlkS.more, HCAS.out] at es
    obtain ⟨rfl, rfl⟩ := es
    clear HS
    go_wp2_with fail
    (first | go_end0 | refine bodyPost_ret (results_none (by kernel_rfl) _ _ _) rfl ?_)
    first
      | exact ⟨rfl, (hMs.wider (by simp)).call hM4 (by simp), h4, hb4⟩
      | (have hMf : Mod w4 (w4.setCell ⟨b, 0, none⟩ (.int .i64 3)) [b] := (Mod.refl _ _).setCell (.inl (by simp)) _
         exact ⟨rfl, ((hMs.wider (by simp)).call hM4 (by simp)).call hMf (by simp), h4.mod hMf (by simp; omega) (by simp; omega), hb4.set_same 0 (.int .i64 3)⟩)

set_option maxRecDepth 100000 in
set_option maxHeartbeats 2000000 in
theorem lessShrink (w : World) (b m mb : Nat) (σ : MS) (j : BlkS) (j' : BlkS) (σ' : MS) (hs : j.less σ = (j', σ')) (hj : j.line = 3) (x1 : 1 ≤ j.blocks) (x4 : j.blocks ≤ 4) (hb : Has w b (j.obj 178)) (hm : MemAt w m mb σ) (n1 : b ≠ m) (n2 : b ≠ mb) :
    Calls Tryd.prog 132 #[.pointer (some ⟨b, 0, none⟩), .pointer (some ⟨m, 0, none⟩)] w (BLeft w b m mb (j'.obj 178) σ') := by
  obtain ⟨line, blocks, e⟩ := j
  subst hj
  have HS := Lib.hid hs
  clear hs
  unfold BlkS.obj at hb
  have hl := hb.lt
  have hl1 := hm.lt
  have hl2 := hm.ltb
  have fz := hb.frozen
  simp only at x1 x4
  have hw : IntKind.u64.wrap (blocks - 1) = blocks - 1 := by
    rw [wrap_u64_eq]
    omega
  have c0 := hb.cell 0
  simp only [getRules] at c0
  go_enter Tryd.func132, Tryd.ntmps132
  go_wp2_with fail
  have hMs : Mod w (w.setCell ⟨b, 0, none⟩ (.int .i64 4)) [b] := (Mod.refl _ _).setCell (.inl (by simp)) _
  have hb2 := hb.set_same 0 (.int .i64 4)
  simp only [List.setIfInBounds_toArray, List.set_cons_zero] at hb2
  have hm2 := hm.mod hMs (by simp; omega) (by simp; omega)
  generalize w.setCell ⟨b, 0, none⟩ (.int .i64 4) = w2 at hMs hb2 hm2 ⊢
  clear c0 fz
  have d1 := hb2.cell 1
  simp only [getRules] at d1
  have hl3 := hb2.lt
  have hl4 := hm2.lt
  have hl5 := hm2.ltb
  cases hcas : (σ.g 5 0 0 == blocks)
  all_goals
    have HCAS := Lib.hid hcas
    clear hcas
    go_region_held3 (fun W => W.cell? ⟨b, 1, none⟩ = some (.int .u64 blocks)) (first | assumption | (simp [go_sem, d1, hl3]))
      (first | (go_at_call 155; go_must (refine (bcount_any _).mono ?_; rintro en w3 ⟨rfl, rfl⟩)) | (go_at_call 136; go_must (refine (cas_any _ m mb σ (hm2.mod (S := []) (by (repeat (first | with_reducible (first | exact Mod.refl _ _ | apply Mod.drewN | apply Mod.drew | apply Mod.alloc | refine Mod.setCell ?_ ?_ _ | refine Mod.put ?_ ?_ _) | focus (simp; done) | focus (simp; omega)))) (by simp) (by simp)) 5 0 0 blocks (blocks - 1) (by omega) (by omega) (by decide)).mono ?_; rintro en w4 ⟨rfl, hm4, h4⟩; rw [HCAS.out]; have hM4 : Mod w2 w4 [m, mb] := (by (repeat (first | with_reducible (first | exact hm4 | exact Mod.refl _ _ | apply Mod.drewN | apply Mod.drew | apply Mod.alloc | refine Mod.setCell ?_ ?_ _ | refine Mod.put ?_ ?_ _ | refine Mod.call ?_ hm4 ?_) | focus (simp; done) | focus (simp; omega)))); have hb4 := hb2.mod hM4 (by simp; omega); have d4 := hb4.cell 0; have d5 := hb4.cell 1; simp only [getRules] at d4 d5; clear d1; have fz4 := hb4.frozen; have hl7 := hb4.lt)))
    have es := HS.out
    simp [BlkS.less, HCAS.out] at es
    obtain ⟨rfl, rfl⟩ := es
    clear HS
    go_wp2_with fail
    first
      | ((first | go_end0 | refine bodyPost_ret (results_none (by kernel_rfl) _ _ _) rfl ?_)
         exact ⟨rfl, (hMs.wider (by simp)).call hM4 (by simp), h4, hb4⟩)
      | (refine (bend_any _ b _ _ _ _ 0 hb4 rfl rfl).mono ?_
         rintro en w5 ⟨rfl, hM5, hb5⟩
         go_wp2
         (first | go_end0 | refine bodyPost_ret (results_none (by kernel_rfl) _ _ _) rfl ?_)
         exact ⟨rfl, ((hMs.wider (by simp)).call hM4 (by simp)).call hM5 (by simp), h4.mod hM5 (by simp; omega) (by simp; omega), hb5⟩)

set_option maxRecDepth 100000 in
set_option maxHeartbeats 2000000 in
theorem moreOpen (w : World) (hf : FieldsAt w) (b m mb : Nat) (σ : MS) (j : BlkS) (j' : BlkS) (σ' : MS) (hs : j.more σ = (j', σ')) (hj : j.line = 3) (x1 : 0 ≤ j.blocks) (x4 : j.blocks < 4) (hb : Has w b (j.obj 177)) (hm : MemAt w m mb σ) (n1 : b ≠ m) (n2 : b ≠ mb) (n3 : 0 ≠ m) (n4 : 0 ≠ b) :
    Calls Tryd.prog 128 #[.pointer (some ⟨b, 0, none⟩), .pointer (some ⟨m, 0, none⟩)] w (BLeft w b m mb (j'.obj 177) σ') := by
  obtain ⟨line, blocks, e⟩ := j
  subst hj
  have HS := Lib.hid hs
  clear hs
  unfold BlkS.obj at hb
  have hl := hb.lt
  have hl1 := hm.lt
  have hl2 := hm.ltb
  have fz := hb.frozen
  simp only at x1 x4
  have d1 := hb.cell 1
  simp only [getRules] at d1
  go_enter Tryd.func128, Tryd.ntmps128
  go_wp2_with fail
  refine (turn_any w hf m mb σ hm blocks false x1 x4 n3).mono ?_
  rintro en w3 ⟨rfl, hM3, hm3⟩
  have hb3 := hb.mod hM3 (by simp; omega)
  have es : (⟨3, blocks, e⟩ : BlkS).more σ = (⟨0, blocks, 0⟩, σ.cas 7 blocks 0 (blockW 0 true) (blockW 0 false)) := by simp [BlkS.more]
  obtain ⟨rfl, rfl⟩ := Prod.mk.inj (HS.out.symm.trans es)
  clear es HS d1 fz
  have hl3 := hb3.lt
  go_wp2_with fail
  refine (bend_any _ b _ _ _ _ 0 hb3 rfl rfl).mono ?_
  rintro en w5 ⟨rfl, hM5, hb5⟩
  go_wp2
  (first | go_end0 | refine bodyPost_ret (results_none (by kernel_rfl) _ _ _) rfl ?_)
  exact ⟨rfl, (hM3.wider (by simp)).call hM5 (by simp), hm3.mod hM5 (by simp; omega) (by simp; omega), hb5⟩

set_option maxRecDepth 100000 in
set_option maxHeartbeats 2000000 in
theorem lessShut (w : World) (hf : FieldsAt w) (b m mb : Nat) (σ : MS) (j : BlkS) (j' : BlkS) (σ' : MS) (hs : j.less σ = (j', σ')) (hj : j.line = 2) (x1 : 1 ≤ j.blocks) (x4 : j.blocks ≤ 4) (hb : Has w b (j.obj 178)) (hm : MemAt w m mb σ) (n1 : b ≠ m) (n2 : b ≠ mb) (n3 : 0 ≠ m) (n4 : 0 ≠ b) :
    Calls Tryd.prog 131 #[.pointer (some ⟨b, 0, none⟩), .pointer (some ⟨m, 0, none⟩)] w (BLeft w b m mb (j'.obj 178) σ') := by
  obtain ⟨line, blocks, e⟩ := j
  subst hj
  have HS := Lib.hid hs
  clear hs
  unfold BlkS.obj at hb
  have hl := hb.lt
  have hl1 := hm.lt
  have hl2 := hm.ltb
  have fz := hb.frozen
  simp only at x1 x4
  have hw : IntKind.u64.wrap (blocks - 1) = blocks - 1 := by
    rw [wrap_u64_eq]
    omega
  have c0 := hb.cell 0
  have c1 := hb.cell 1
  simp only [getRules] at c0 c1
  go_enter Tryd.func131, Tryd.ntmps131
  go_wp2_with fail
  have hMs : Mod w (w.setCell ⟨b, 0, none⟩ (.int .i64 3)) [b] := (Mod.refl _ _).setCell (.inl (by simp)) _
  have hb2 := hb.set_same 0 (.int .i64 3)
  simp only [List.setIfInBounds_toArray, List.set_cons_zero] at hb2
  have hm2 := hm.mod hMs (by simp; omega) (by simp; omega)
  have hf2 := hf.mod hMs (by simp; omega)
  generalize w.setCell ⟨b, 0, none⟩ (.int .i64 3) = w2 at hMs hb2 hm2 hf2 ⊢
  clear c0 c1 fz
  refine (turn_any w2 hf2 m mb σ hm2 (blocks - 1) true (by omega) (by omega) n3).mono ?_
  rintro en w3 ⟨rfl, hM3, hm3⟩
  have hb3 := hb2.mod hM3 (by simp; omega)
  have hl3 := hb3.lt
  rw [show (!true) = false from rfl] at hm3 ⊢
  cases hcas : (σ.g 7 (blocks - 1) 0 == blockW 0 false)
  · have es : (⟨2, blocks, e⟩ : BlkS).less σ = (⟨0, blocks, 7⟩, σ.cas 7 (blocks - 1) 0 (blockW 0 false) (blockW 0 true)) := by simp [BlkS.less, hcas]
    obtain ⟨rfl, rfl⟩ := Prod.mk.inj (HS.out.symm.trans es)
    clear es HS hcas
    go_wp2_with fail
    refine (bend_any _ b _ _ _ _ 7 hb3 rfl rfl).mono ?_
    rintro en w5 ⟨rfl, hM5, hb5⟩
    go_wp2
    (first | go_end0 | refine bodyPost_ret (results_none (by kernel_rfl) _ _ _) rfl ?_)
    exact ⟨rfl, ((hMs.wider (by simp)).call hM3 (by simp)).call hM5 (by simp), hm3.mod hM5 (by simp; omega) (by simp; omega), hb5⟩
  · have es : (⟨2, blocks, e⟩ : BlkS).less σ = (⟨3, blocks, e⟩, σ.cas 7 (blocks - 1) 0 (blockW 0 false) (blockW 0 true)) := by simp [BlkS.less, hcas]
    obtain ⟨rfl, rfl⟩ := Prod.mk.inj (HS.out.symm.trans es)
    clear es HS hcas
    go_wp2_with fail
    (first | go_end0 | refine bodyPost_ret (results_none (by kernel_rfl) _ _ _) rfl ?_)
    exact ⟨rfl, (hMs.wider (by simp)).call hM3 (by simp), hm3, hb3⟩

theorem newMore_any (w : World) : Calls Tryd.prog 80 #[] w fun e w' => e = .returned (.pointer (some ⟨w.heap.size, 0, none⟩)) ∧ w.alloc (BlkS.new.obj 177) = w' := by
  go_enter Tryd.func80, Tryd.ntmps80
  go_wp2
  go_ret
  exact ⟨rfl, rfl⟩

theorem moreOver_any (w : World) (b : Nat) (j : BlkS) (h : Has w b (j.obj 177)) :
    Calls Tryd.prog 125 #[.pointer (some ⟨b, 0, none⟩)] w fun e w' => e = .returned (.bool (j.line == 0)) ∧ w = w' := by
  unfold BlkS.obj at h
  go_enter Tryd.func125, Tryd.ntmps125
  go_wp2_with fail
  refine (bover_any w b j.line _ _ h rfl).mono ?_
  rintro e w1 ⟨rfl, rfl⟩
  go_wp2
  go_ret
  exact ⟨rfl, rfl⟩

theorem moreGot_any (w : World) (b : Nat) (j : BlkS) (h : Has w b (j.obj 177)) :
    Calls Tryd.prog 123 #[.pointer (some ⟨b, 0, none⟩)] w fun e w' => e = .returned (.int .i64 j.e) ∧ w = w' := by
  unfold BlkS.obj at h
  have c_h_2 := h.cell 2; simp only [getRules] at c_h_2
  go_enter Tryd.func123, Tryd.ntmps123
  go_wp2
  go_ret
  exact ⟨rfl, rfl⟩

@[go_sem] theorem index_more1 (a b c d : Value) (w : World) : (Instr.index 180 (.agg #[a, b, c, d]) (.int .i64 1)).run Tryd.prog w = .ok b w := by kernel_rfl
@[go_sem] theorem index_more2 (a b c d : Value) (w : World) : (Instr.index 180 (.agg #[a, b, c, d]) (.int .i64 2)).run Tryd.prog w = .ok c w := by kernel_rfl
@[go_sem] theorem index_more3 (a b c d : Value) (w : World) : (Instr.index 180 (.agg #[a, b, c, d]) (.int .i64 3)).run Tryd.prog w = .ok d w := by kernel_rfl

/-- What a More may be at. -/
def BlkS.OkMore (j : BlkS) (σ : MS) : Prop := j.line = 0 ∨ (j.line = 1 ∧ 1 ≤ σ.g 5 0 0 ∧ σ.g 5 0 0 ≤ 4) ∨ (j.line = 2 ∧ 1 ≤ j.blocks ∧ j.blocks ≤ 4) ∨ (j.line = 3 ∧ 0 ≤ j.blocks ∧ j.blocks < 4)

set_option maxRecDepth 100000 in
set_option maxHeartbeats 2000000 in
theorem moreStep_any (w : World) (hf : FieldsAt w) (b m mb : Nat) (σ : MS) (j : BlkS) (hj : j.OkMore σ) (hb : Has w b (j.obj 177)) (hm : MemAt w m mb σ) (n1 : b ≠ m) (n2 : b ≠ mb) (n3 : 0 ≠ m) (n4 : 0 ≠ b) :
    Calls Tryd.prog 82 #[.pointer (some ⟨b, 0, none⟩), .pointer (some ⟨m, 0, none⟩)] w fun e w' =>
      e = .returned (.bool ((j.more σ).1.line == 0)) ∧ Mod w w' [m, mb, b] ∧ MemAt w' m mb (j.more σ).2 ∧ Has w' b ((j.more σ).1.obj 177) := by
  obtain ⟨j', σ', hs⟩ : ∃ j' σ', j.more σ = (j', σ') := ⟨_, _, rfl⟩
  rw [hs]
  have c0 := hb.cell 0
  unfold BlkS.obj at c0
  simp only [getRules] at c0
  rcases hj with h0 | ⟨h0, h1, h2⟩ | ⟨h0, h1, h2⟩ | ⟨h0, h1, h2⟩
  · have es : j.more σ = (j, σ) := by simp [BlkS.more, h0]
    rw [es] at hs
    obtain ⟨rfl, rfl⟩ := Prod.mk.inj hs
    have hzb : (j.line == 0) = true := by simp [h0]
    clear hs es
    go_enter Tryd.func82, Tryd.ntmps82
    go_wp2_with fail
    refine (moreOver_any w b j hb).mono ?_
    rintro e w1 ⟨rfl, rfl⟩
    rw [hzb]
    go_wp2_with fail
    refine (moreOver_any w b j hb).mono ?_
    rintro e w1 ⟨rfl, rfl⟩
    go_wp2_with fail
    go_ret
    exact ⟨by rw [hzb]; rfl, Mod.refl _ _, hm, hb⟩
  · have hL := moreFirst w b m mb σ j j' σ' hs h0 h1 h2 hb hm n1 n2
    have HL := Lib.hid hL
    have hzb : (j.line == 0) = false := by simp [h0]
    rw [h0] at c0
    clear hL hs
    go_enter Tryd.func82, Tryd.ntmps82
    go_wp2_with fail
    refine (moreOver_any w b j hb).mono ?_
    rintro e w1 ⟨rfl, rfl⟩
    rw [hzb]
    go_wp2_with fail
    refine HL.out.mono ?_
    rintro e w2 ⟨rfl, hM, hm2, hb2⟩
    go_wp2_with fail
    refine (moreOver_any w2 b j' hb2).mono ?_
    rintro e w1 ⟨rfl, rfl⟩
    go_wp2_with fail
    go_ret
    exact ⟨rfl, hM, hm2, hb2⟩
  · have hL := moreGrow w b m mb σ j j' σ' hs h0 h1 h2 hb hm n1 n2
    have HL := Lib.hid hL
    have hzb : (j.line == 0) = false := by simp [h0]
    rw [h0] at c0
    clear hL hs
    go_enter Tryd.func82, Tryd.ntmps82
    go_wp2_with fail
    refine (moreOver_any w b j hb).mono ?_
    rintro e w1 ⟨rfl, rfl⟩
    rw [hzb]
    go_wp2_with fail
    refine HL.out.mono ?_
    rintro e w2 ⟨rfl, hM, hm2, hb2⟩
    go_wp2_with fail
    refine (moreOver_any w2 b j' hb2).mono ?_
    rintro e w1 ⟨rfl, rfl⟩
    go_wp2_with fail
    go_ret
    exact ⟨rfl, hM, hm2, hb2⟩
  · have hL := moreOpen w hf b m mb σ j j' σ' hs h0 h1 h2 hb hm n1 n2 n3 n4
    have HL := Lib.hid hL
    have hzb : (j.line == 0) = false := by simp [h0]
    rw [h0] at c0
    clear hL hs
    go_enter Tryd.func82, Tryd.ntmps82
    go_wp2_with fail
    refine (moreOver_any w b j hb).mono ?_
    rintro e w1 ⟨rfl, rfl⟩
    rw [hzb]
    go_wp2_with fail
    refine HL.out.mono ?_
    rintro e w2 ⟨rfl, hM, hm2, hb2⟩
    go_wp2_with fail
    refine (moreOver_any w2 b j' hb2).mono ?_
    rintro e w1 ⟨rfl, rfl⟩
    go_wp2_with fail
    go_ret
    exact ⟨rfl, hM, hm2, hb2⟩

theorem newLess_any (w : World) : Calls Tryd.prog 81 #[] w fun e w' => e = .returned (.pointer (some ⟨w.heap.size, 0, none⟩)) ∧ w.alloc (BlkS.new.obj 178) = w' := by
  go_enter Tryd.func81, Tryd.ntmps81
  go_wp2
  go_ret
  exact ⟨rfl, rfl⟩

theorem lessOver_any (w : World) (b : Nat) (j : BlkS) (h : Has w b (j.obj 178)) :
    Calls Tryd.prog 129 #[.pointer (some ⟨b, 0, none⟩)] w fun e w' => e = .returned (.bool (j.line == 0)) ∧ w = w' := by
  unfold BlkS.obj at h
  go_enter Tryd.func129, Tryd.ntmps129
  go_wp2_with fail
  refine (bover_any w b j.line _ _ h rfl).mono ?_
  rintro e w1 ⟨rfl, rfl⟩
  go_wp2
  go_ret
  exact ⟨rfl, rfl⟩

theorem lessGot_any (w : World) (b : Nat) (j : BlkS) (h : Has w b (j.obj 178)) :
    Calls Tryd.prog 124 #[.pointer (some ⟨b, 0, none⟩)] w fun e w' => e = .returned (.int .i64 j.e) ∧ w = w' := by
  unfold BlkS.obj at h
  have c_h_2 := h.cell 2; simp only [getRules] at c_h_2
  go_enter Tryd.func124, Tryd.ntmps124
  go_wp2
  go_ret
  exact ⟨rfl, rfl⟩

@[go_sem] theorem index_less1 (a b c d e : Value) (w : World) : (Instr.index 182 (.agg #[a, b, c, d, e]) (.int .i64 1)).run Tryd.prog w = .ok b w := by kernel_rfl
@[go_sem] theorem index_less2 (a b c d e : Value) (w : World) : (Instr.index 182 (.agg #[a, b, c, d, e]) (.int .i64 2)).run Tryd.prog w = .ok c w := by kernel_rfl
@[go_sem] theorem index_less3 (a b c d e : Value) (w : World) : (Instr.index 182 (.agg #[a, b, c, d, e]) (.int .i64 3)).run Tryd.prog w = .ok d w := by kernel_rfl

/-- What a Less may be at. -/
def BlkS.OkLess (j : BlkS) (σ : MS) : Prop := j.line = 0 ∨ (j.line = 1 ∧ 1 ≤ σ.g 5 0 0 ∧ σ.g 5 0 0 ≤ 4) ∨ (j.line = 2 ∧ 1 ≤ j.blocks ∧ j.blocks ≤ 4) ∨ (j.line = 3 ∧ 1 ≤ j.blocks ∧ j.blocks ≤ 4)

set_option maxRecDepth 100000 in
set_option maxHeartbeats 2000000 in
theorem lessStep_any (w : World) (hf : FieldsAt w) (b m mb : Nat) (σ : MS) (j : BlkS) (hj : j.OkLess σ) (hb : Has w b (j.obj 178)) (hm : MemAt w m mb σ) (n1 : b ≠ m) (n2 : b ≠ mb) (n3 : 0 ≠ m) (n4 : 0 ≠ b) :
    Calls Tryd.prog 83 #[.pointer (some ⟨b, 0, none⟩), .pointer (some ⟨m, 0, none⟩)] w fun e w' =>
      e = .returned (.bool ((j.less σ).1.line == 0)) ∧ Mod w w' [m, mb, b] ∧ MemAt w' m mb (j.less σ).2 ∧ Has w' b ((j.less σ).1.obj 178) := by
  obtain ⟨j', σ', hs⟩ : ∃ j' σ', j.less σ = (j', σ') := ⟨_, _, rfl⟩
  rw [hs]
  have c0 := hb.cell 0
  unfold BlkS.obj at c0
  simp only [getRules] at c0
  rcases hj with h0 | ⟨h0, h1, h2⟩ | ⟨h0, h1, h2⟩ | ⟨h0, h1, h2⟩
  · have es : j.less σ = (j, σ) := by simp [BlkS.less, h0]
    rw [es] at hs
    obtain ⟨rfl, rfl⟩ := Prod.mk.inj hs
    have hzb : (j.line == 0) = true := by simp [h0]
    clear hs es
    go_enter Tryd.func83, Tryd.ntmps83
    go_wp2_with fail
    refine (lessOver_any w b j hb).mono ?_
    rintro e w1 ⟨rfl, rfl⟩
    rw [hzb]
    go_wp2_with fail
    refine (lessOver_any w b j hb).mono ?_
    rintro e w1 ⟨rfl, rfl⟩
    go_wp2_with fail
    go_ret
    exact ⟨by rw [hzb]; rfl, Mod.refl _ _, hm, hb⟩
  · have hL := lessFirst w b m mb σ j j' σ' hs h0 h1 h2 hb hm n1 n2
    have HL := Lib.hid hL
    have hzb : (j.line == 0) = false := by simp [h0]
    rw [h0] at c0
    clear hL hs
    go_enter Tryd.func83, Tryd.ntmps83
    go_wp2_with fail
    refine (lessOver_any w b j hb).mono ?_
    rintro e w1 ⟨rfl, rfl⟩
    rw [hzb]
    go_wp2_with fail
    refine HL.out.mono ?_
    rintro e w2 ⟨rfl, hM, hm2, hb2⟩
    go_wp2_with fail
    refine (lessOver_any w2 b j' hb2).mono ?_
    rintro e w1 ⟨rfl, rfl⟩
    go_wp2_with fail
    go_ret
    exact ⟨rfl, hM, hm2, hb2⟩
  · have hL := lessShut w hf b m mb σ j j' σ' hs h0 h1 h2 hb hm n1 n2 n3 n4
    have HL := Lib.hid hL
    have hzb : (j.line == 0) = false := by simp [h0]
    rw [h0] at c0
    clear hL hs
    go_enter Tryd.func83, Tryd.ntmps83
    go_wp2_with fail
    refine (lessOver_any w b j hb).mono ?_
    rintro e w1 ⟨rfl, rfl⟩
    rw [hzb]
    go_wp2_with fail
    refine HL.out.mono ?_
    rintro e w2 ⟨rfl, hM, hm2, hb2⟩
    go_wp2_with fail
    refine (lessOver_any w2 b j' hb2).mono ?_
    rintro e w1 ⟨rfl, rfl⟩
    go_wp2_with fail
    go_ret
    exact ⟨rfl, hM, hm2, hb2⟩
  · have hL := lessShrink w b m mb σ j j' σ' hs h0 h1 h2 hb hm n1 n2
    have HL := Lib.hid hL
    have hzb : (j.line == 0) = false := by simp [h0]
    rw [h0] at c0
    clear hL hs
    go_enter Tryd.func83, Tryd.ntmps83
    go_wp2_with fail
    refine (lessOver_any w b j hb).mono ?_
    rintro e w1 ⟨rfl, rfl⟩
    rw [hzb]
    go_wp2_with fail
    refine HL.out.mono ?_
    rintro e w2 ⟨rfl, hM, hm2, hb2⟩
    go_wp2_with fail
    refine (lessOver_any w2 b j' hb2).mono ?_
    rintro e w1 ⟨rfl, rfl⟩
    go_wp2_with fail
    go_ret
    exact ⟨rfl, hM, hm2, hb2⟩

end Go.Proofs.YtghkdkdlbkmicaaDoor
