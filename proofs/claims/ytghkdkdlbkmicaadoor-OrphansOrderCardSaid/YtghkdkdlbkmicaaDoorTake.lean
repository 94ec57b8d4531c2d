/- A Take: what each step of it does. -/
import Derived.Test.YtghkdkdlbkmicaaDoorOrphans
import Derived.Deep.RegionLaw
namespace Go.Proofs.YtghkdkdlbkmicaaDoor
open Go.RowKit

structure TakeS where
  line : Int
  head : Int
  slot : Int
  e : Ent6
  got : List Ent6
def TakeS.obj (t : TakeS) (v : Value) : Obj := .cells #[.int .i64 t.line, .int .u64 t.head, .int .i64 t.slot, .int .i64 t.e.slot, .int .u32 t.e.gen, .bool t.e.mark, .int .u64 t.e.birth, .int .u64 t.e.epoch, .int .u64 t.e.era, v] 78
/-- A Take lies in block b, what it got is the row v. -/
structure TakeAt (w : World) (b : Nat) (v : Value) (t : TakeS) : Prop where
  has : Has w b (t.obj v)
  row : EntRow w v t.got
  ne : v.ownBlock ≠ some b
def TakeS.new : TakeS := ⟨1, 0, 0, ⟨0, 0, false, 0, 0, 0⟩, []⟩
def TakeS.step (t : TakeS) (σ : MS) : TakeS × MS :=
  if t.line = 1 then ({ t with head := σ.g 4 0 0, line := if slotW (σ.g 4 0 0) < 0 then 0 else 2 }, σ.load 4 0 0)
  else if t.line = 2 then (if (σ.g 4 0 0 == t.head) = true then { t with slot := slotW t.head, line := 3 } else { t with line := 1 }, σ.cas 4 0 0 t.head (headW (-1) (t.head / 65536 + 1)))
  else if t.line = 3 then ({ t with e := { t.e with slot := t.slot, gen := hdrG (σ.g 9 t.slot 0), mark := false }, line := 4 }, σ.load 9 t.slot 0)
  else if t.line = 4 then ({ t with e := { t.e with birth := σ.g 9 t.slot 1 }, line := 5 }, σ.load 9 t.slot 1)
  else if t.line = 5 then ({ t with e := { t.e with epoch := σ.g 9 t.slot 3 }, line := 6 }, σ.load 9 t.slot 3)
  else if t.line = 6 then ({ t with e := { t.e with era := σ.g 9 t.slot 4 }, got := t.got ++ [{ t.e with era := σ.g 9 t.slot 4 }], line := 7 }, σ.load 9 t.slot 4)
  else if t.line = 7 then ({ t with slot := slotW (σ.g 9 t.slot 2), line := if slotW (σ.g 9 t.slot 2) < 0 ∨ 256 ≤ t.got.length then 0 else 3 }, σ.load 9 t.slot 2)
  else (t, σ)
structure TakeS.Ok (t : TakeS) : Prop where
  line : t.line = 0 ∨ t.line = 1 ∨ t.line = 2 ∨ t.line = 3 ∨ t.line = 4 ∨ t.line = 5 ∨ t.line = 6 ∨ t.line = 7
  len : t.got.length ≤ 1000
  head0 : 0 ≤ t.head
  head1 : t.head < 18446744073709551616

/-- What a Take's line leaves. -/
def KLeft (w : World) (b m mb : Nat) (v : Value) (t : TakeS) (σ : MS) (e : Ending) (w' : World) : Prop :=
  e = .returned (.tuple #[]) ∧ Mod w w' (m :: mb :: b :: v.ownBlock.toList) ∧ MemAt w' m mb σ ∧ ∃ v', TakeAt w' b v' t ∧ (∀ y, v'.ownBlock = some y → v.ownBlock = some y ∨ w.heap.size ≤ y)

/-- .. where its row is as it was. -/
theorem TakeAt.back {w w' : World} {b m mb : Nat} {v : Value} {t t' : TakeS} {σ' : MS} (h : TakeAt w b v t) (n5 : v.ownBlock ≠ some m) (n6 : v.ownBlock ≠ some mb) (hM : Mod w w' [m, mb, b]) (hb : Has w' b (t'.obj v)) (hs : t'.got = t.got) (hm : MemAt w' m mb σ') :
    KLeft w b m mb v t' σ' (.returned (.tuple #[])) w' := by
  refine ⟨rfl, hM.wider (fun y hy => .inl (by simp at hy ⊢; rcases hy with h | h | h <;> simp [h])), hm, v, ⟨hb, ?_, h.ne⟩, fun y hy => .inl hy⟩
  unfold EntRow
  rw [hs]
  refine Row.mod h.row hM (fun y hy => ?_)
  simp
  exact ⟨fun e => n5 (by rw [hy, e]), fun e => n6 (by rw [hy, e]), fun e => h.ne (by rw [hy, e])⟩

set_option maxRecDepth 100000 in
set_option maxHeartbeats 2000000 in
theorem takeFirst (w : World) (hf : FieldsAt w) (b m mb : Nat) (σ : MS) (v : Value) (g g' : TakeS) (σ' : MS) (hs : g.step σ = (g', σ')) (hl1 : g.line = 1) (h : TakeAt w b v g) (hm : MemAt w m mb σ)
    (n1 : b ≠ m) (n2 : b ≠ mb) (n5 : v.ownBlock ≠ some m) (n6 : v.ownBlock ≠ some mb) (n3 : 0 ≠ m) (n4 : 0 ≠ b) (n8 : 0 ≠ mb) :
    Calls Tryd.prog 60 #[.pointer (some ⟨b, 0, none⟩), .pointer (some ⟨m, 0, none⟩)] w (KLeft w b m mb v g' σ') := by
  obtain ⟨line, head, slot, ⟨es0, es1, es2, es3, es4, es5⟩, got⟩ := g
  simp only at hl1
  subst hl1
  have hb := h.has
  have G := Lib.hid h
  have hl := hb.lt
  have hml := hm.lt
  have hmbl := hm.ltb
  unfold TakeS.obj at hb
  have c0 := hb.cell 0
  simp only [getRules] at c0
  have fz := hb.frozen
  have HS := Lib.hid hs
  clear hs
  go_enter Tryd.func60, Tryd.ntmps60
  go_wp2_with fail
  have hMs : Mod w (w.setCell ⟨b, 0, none⟩ (.int .i64 2)) [b] := (Mod.refl _ _).setCell (.inl (by simp)) _
  have hb2 := hb.set_same 0 (.int .i64 2)
  simp only [List.setIfInBounds_toArray, List.set_cons_zero] at hb2
  have hm2 := hm.mod hMs (by simp; omega) (by simp; omega)
  have hf2 := hf.mod hMs (by simp; omega)
  generalize w.setCell ⟨b, 0, none⟩ (.int .i64 2) = w2 at hMs hb2 hm2 hf2 ⊢
  clear c0 fz
  refine (oload_any w2 hf2 b m mb σ _ _ _ hb2 rfl hm2 n1 n2 n3 n4).mono ?_
  rintro e w3 ⟨rfl, hM3, hm3, hb3⟩
  simp only [List.setIfInBounds_toArray, List.set_cons_succ, List.set_cons_zero] at hb3
  have hMall : Mod w w3 [m, mb, b] := (hMs.wider (by simp)).call hM3 (by simp)
  have c0 := hb3.cell 0
  simp only [getRules] at c0
  have fz := hb3.frozen
  have hl3 := hb3.lt
  generalize hg : σ.g 4 0 0 = x at *
  have HG := Lib.hid hg
  clear hg
  by_cases hx : slotW x < 0
  · have es : (⟨1, head, slot, ⟨es0, es1, es2, es3, es4, es5⟩, got⟩ : TakeS).step σ = (⟨0, x, slot, ⟨es0, es1, es2, es3, es4, es5⟩, got⟩, σ.load 4 0 0) := by simp [TakeS.step, HG.out, hx]
    obtain ⟨rfl, rfl⟩ := Prod.mk.inj (HS.out.symm.trans es)
    clear es HS
    go_wp2_with fail
    (first | go_end0 | refine bodyPost_ret (results_none (by kernel_rfl) _ _ _) rfl ?_)
    have hMf : Mod w3 (w3.setCell ⟨b, 0, none⟩ (.int .i64 0)) [b] := (Mod.refl _ _).setCell (.inl (by simp)) _
    exact G.out.back n5 n6 (hMall.call hMf (by simp)) (hb3.set_same 0 (.int .i64 0)) rfl (hm3.mod hMf (by simp; omega) (by simp; omega))
  · have es : (⟨1, head, slot, ⟨es0, es1, es2, es3, es4, es5⟩, got⟩ : TakeS).step σ = (⟨2, x, slot, ⟨es0, es1, es2, es3, es4, es5⟩, got⟩, σ.load 4 0 0) := by simp [TakeS.step, HG.out, hx]
    obtain ⟨rfl, rfl⟩ := Prod.mk.inj (HS.out.symm.trans es)
    clear es HS
    have hx' : 0 ≤ slotW x := by omega
    go_wp2_with fail
    (first | go_end0 | refine bodyPost_ret (results_none (by kernel_rfl) _ _ _) rfl ?_)
    exact G.out.back n5 n6 hMall hb3 rfl hm3

set_option maxRecDepth 100000 in
set_option maxHeartbeats 2000000 in
theorem takeAll (w : World) (hf : FieldsAt w) (b m mb : Nat) (σ : MS) (v : Value) (g g' : TakeS) (σ' : MS) (hs : g.step σ = (g', σ')) (hl1 : g.line = 2) (hok : g.Ok) (h : TakeAt w b v g) (hm : MemAt w m mb σ)
    (n1 : b ≠ m) (n2 : b ≠ mb) (n5 : v.ownBlock ≠ some m) (n6 : v.ownBlock ≠ some mb) (n3 : 0 ≠ m) (n4 : 0 ≠ b) (n8 : 0 ≠ mb) :
    Calls Tryd.prog 61 #[.pointer (some ⟨b, 0, none⟩), .pointer (some ⟨m, 0, none⟩)] w (KLeft w b m mb v g' σ') := by
  obtain ⟨line, head, slot, ⟨es0, es1, es2, es3, es4, es5⟩, got⟩ := g
  simp only at hl1
  subst hl1
  have h0 := hok.head0
  have H1 := Lib.hid hok.head1
  simp only at h0 H1
  have hb := h.has
  have G := Lib.hid h
  have hl := hb.lt
  have hml := hm.lt
  have hmbl := hm.ltb
  unfold TakeS.obj at hb
  have c0 := hb.cell 0
  simp only [getRules] at c0
  have fz := hb.frozen
  have HS := Lib.hid hs
  clear hs hok
  go_enter Tryd.func61, Tryd.ntmps61
  go_wp2_with fail
  have hMs : Mod w (w.setCell ⟨b, 0, none⟩ (.int .i64 1)) [b] := (Mod.refl _ _).setCell (.inl (by simp)) _
  have hb2 := hb.set_same 0 (.int .i64 1)
  simp only [List.setIfInBounds_toArray, List.set_cons_zero] at hb2
  have hm2 := hm.mod hMs (by simp; omega) (by simp; omega)
  have hf2 := hf.mod hMs (by simp; omega)
  generalize w.setCell ⟨b, 0, none⟩ (.int .i64 1) = w2 at hMs hb2 hm2 hf2 ⊢
  clear c0 fz
  refine (oswap_any w2 hf2 b m mb σ _ _ head (-1) h0 H1 hb2 rfl hm2 n1 n2 n3 (by omega) (by omega)).mono ?_
  rintro e w3 ⟨rfl, hM3, hm3, hb3⟩
  have hMall : Mod w w3 [m, mb, b] := (hMs.wider (by simp)).call hM3 (by simp)
  have hf3 := hf2.mod hM3 (by simp; exact ⟨n3, n8⟩)
  have c0 := hb3.cell 0
  have c1 := hb3.cell 1
  have c2 := hb3.cell 2
  simp only [getRules] at c0 c1 c2
  have fz := hb3.frozen
  have hl3 := hb3.lt
  cases hcas : (σ.g 4 0 0 == head)
  · have es : (⟨2, head, slot, ⟨es0, es1, es2, es3, es4, es5⟩, got⟩ : TakeS).step σ = (⟨1, head, slot, ⟨es0, es1, es2, es3, es4, es5⟩, got⟩, σ.cas 4 0 0 head (headW (-1) (head / 65536 + 1))) := by simp [TakeS.step, hcas]
    obtain ⟨rfl, rfl⟩ := Prod.mk.inj (HS.out.symm.trans es)
    clear es HS hcas
    go_wp2_with fail
    (first | go_end0 | refine bodyPost_ret (results_none (by kernel_rfl) _ _ _) rfl ?_)
    exact G.out.back n5 n6 hMall hb3 rfl hm3
  · have es : (⟨2, head, slot, ⟨es0, es1, es2, es3, es4, es5⟩, got⟩ : TakeS).step σ = (⟨3, head, slotW head, ⟨es0, es1, es2, es3, es4, es5⟩, got⟩, σ.cas 4 0 0 head (headW (-1) (head / 65536 + 1))) := by simp [TakeS.step, hcas]
    obtain ⟨rfl, rfl⟩ := Prod.mk.inj (HS.out.symm.trans es)
    clear es HS hcas
    go_wp2_with fail
    refine (asHead_any w3 hf3 head h0 H1.out).mono ?_
    rintro e w4 ⟨rfl, n, rfl⟩
    go_wp2_with fail
    (first | go_end0 | refine bodyPost_ret (results_none (by kernel_rfl) _ _ _) rfl ?_)
    have hMf : Mod w3 (((w3.drewN n).setCell ⟨b, 2, none⟩ (.int .i64 (slotW head))).setCell ⟨b, 0, none⟩ (.int .i64 3)) [b] := (((Mod.refl _ _).drewN n).setCell (.inl (by simp)) _).setCell (.inl (by simp)) _
    exact G.out.back n5 n6 (hMall.call hMf (by simp)) (((hb3.drewN n).set_same 2 (.int .i64 (slotW head))).set_same 0 (.int .i64 3)) rfl (hm3.mod hMf (by simp; omega) (by simp; omega))

set_option maxRecDepth 100000 in
set_option maxHeartbeats 2000000 in
theorem takeHeader (w : World) (hf : FieldsAt w) (b m mb : Nat) (σ : MS) (v : Value) (g g' : TakeS) (σ' : MS) (hs : g.step σ = (g', σ')) (hl1 : g.line = 3) (h : TakeAt w b v g) (hm : MemAt w m mb σ)
    (n1 : b ≠ m) (n2 : b ≠ mb) (n5 : v.ownBlock ≠ some m) (n6 : v.ownBlock ≠ some mb) (n3 : 0 ≠ m) (n4 : 0 ≠ b) (n8 : 0 ≠ mb) :
    Calls Tryd.prog 62 #[.pointer (some ⟨b, 0, none⟩), .pointer (some ⟨m, 0, none⟩)] w (KLeft w b m mb v g' σ') := by
  obtain ⟨line, head, slot, ⟨es0, es1, es2, es3, es4, es5⟩, got⟩ := g
  simp only at hl1
  subst hl1
  have hb := h.has
  have G := Lib.hid h
  have hl := hb.lt
  have hml := hm.lt
  have hmbl := hm.ltb
  unfold TakeS.obj at hb
  have c2 := hb.cell 2
  simp only [getRules] at c2
  have HS := Lib.hid hs
  clear hs
  go_enter Tryd.func62, Tryd.ntmps62
  go_wp2_with fail
  refine (oword_any w slot 0).mono ?_
  rintro e w1 ⟨rfl, hw1⟩
  have hM1 : Mod w w1 [] := by
    rw [← hw1]
    exact (Mod.refl _ _).alloc _
  clear hw1
  have hb1 := hb.mod hM1 (by simp)
  have hm1 := hm.mod hM1 (by simp) (by simp)
  go_wp2_with fail
  refine (load_any w1 m mb σ hm1 9 slot 0).mono ?_
  rintro e w2 ⟨rfl, hM2, hm2⟩
  have hb3 := hb1.mod hM2 (by simp; omega)
  have hMall : Mod w w2 [m, mb, b] := (hM1.wider (by simp)).call hM2 (by simp)
  have hr := hm.range 9 slot 0
  have r0 := hr.1
  have R1 := Lib.hid hr.2
  clear hr c2
  generalize hg : σ.g 9 slot 0 = x at *
  have HG := Lib.hid hg
  clear hg
  have fz := hb3.frozen
  have hl3 := hb3.lt
  have es : (⟨3, head, slot, ⟨es0, es1, es2, es3, es4, es5⟩, got⟩ : TakeS).step σ = (⟨4, head, slot, ⟨slot, hdrG x, false, es3, es4, es5⟩, got⟩, σ.load 9 slot 0) := by simp [TakeS.step, HG.out]
  obtain ⟨rfl, rfl⟩ := Prod.mk.inj (HS.out.symm.trans es)
  clear es HS
  have hf3 := hf.mod hMall (by simp; exact ⟨n3, n8, n4⟩)
  have c_hb3_0 := hb3.cell 0; have c_hb3_2 := hb3.cell 2; have c_hb3_3 := hb3.cell 3; have c_hb3_4 := hb3.cell 4; have c_hb3_5 := hb3.cell 5; simp only [getRules] at c_hb3_0 c_hb3_2 c_hb3_3 c_hb3_4 c_hb3_5
  go_wp2_with fail
  refine (asHeader_any w2 hf3 x r0 R1.out).mono ?_
  rintro e w4 ⟨rfl, n, rfl⟩
  go_wp2_with fail
  (first | go_end0 | refine bodyPost_ret (results_none (by kernel_rfl) _ _ _) rfl ?_)
  have hMf : Mod w2 (((((w2.drewN n).setCell ⟨b, 3, none⟩ (.int .i64 slot)).setCell ⟨b, 4, none⟩ (.int .u32 (hdrG x))).setCell ⟨b, 5, none⟩ (.bool false)).setCell ⟨b, 0, none⟩ (.int .i64 4)) [b] := (((((Mod.refl _ _).drewN n).setCell (.inl (by simp)) _).setCell (.inl (by simp)) _).setCell (.inl (by simp)) _).setCell (.inl (by simp)) _
  exact G.out.back n5 n6 (hMall.call hMf (by simp)) (((((hb3.drewN n).set_same 3 (.int .i64 slot)).set_same 4 (.int .u32 (hdrG x))).set_same 5 (.bool false)).set_same 0 (.int .i64 4)) rfl (hm2.mod hMf (by simp; omega) (by simp; omega))

set_option maxRecDepth 100000 in
set_option maxHeartbeats 2000000 in
theorem takeBirth (w : World) (_hf : FieldsAt w) (b m mb : Nat) (σ : MS) (v : Value) (g g' : TakeS) (σ' : MS) (hs : g.step σ = (g', σ')) (hl1 : g.line = 4) (h : TakeAt w b v g) (hm : MemAt w m mb σ)
    (n1 : b ≠ m) (n2 : b ≠ mb) (n5 : v.ownBlock ≠ some m) (n6 : v.ownBlock ≠ some mb) (n3 : 0 ≠ m) (n4 : 0 ≠ b) (n8 : 0 ≠ mb) :
    Calls Tryd.prog 63 #[.pointer (some ⟨b, 0, none⟩), .pointer (some ⟨m, 0, none⟩)] w (KLeft w b m mb v g' σ') := by
  obtain ⟨line, head, slot, ⟨es0, es1, es2, es3, es4, es5⟩, got⟩ := g
  simp only at hl1
  subst hl1
  have hb := h.has
  have G := Lib.hid h
  have hl := hb.lt
  have hml := hm.lt
  have hmbl := hm.ltb
  unfold TakeS.obj at hb
  have c2 := hb.cell 2
  simp only [getRules] at c2
  have HS := Lib.hid hs
  clear hs
  go_enter Tryd.func63, Tryd.ntmps63
  go_wp2_with fail
  refine (oword_any w slot 1).mono ?_
  rintro e w1 ⟨rfl, hw1⟩
  have hM1 : Mod w w1 [] := by
    rw [← hw1]
    exact (Mod.refl _ _).alloc _
  clear hw1
  have hb1 := hb.mod hM1 (by simp)
  have hm1 := hm.mod hM1 (by simp) (by simp)
  go_wp2_with fail
  refine (load_any w1 m mb σ hm1 9 slot 1).mono ?_
  rintro e w2 ⟨rfl, hM2, hm2⟩
  have hb3 := hb1.mod hM2 (by simp; omega)
  have hMall : Mod w w2 [m, mb, b] := (hM1.wider (by simp)).call hM2 (by simp)
  have hr := hm.range 9 slot 1
  have r0 := hr.1
  have R1 := Lib.hid hr.2
  clear hr c2
  generalize hg : σ.g 9 slot 1 = x at *
  have HG := Lib.hid hg
  clear hg
  have fz := hb3.frozen
  have hl3 := hb3.lt
  have es : (⟨4, head, slot, ⟨es0, es1, es2, es3, es4, es5⟩, got⟩ : TakeS).step σ = (⟨5, head, slot, ⟨es0, es1, es2, x, es4, es5⟩, got⟩, σ.load 9 slot 1) := by simp [TakeS.step, HG.out]
  obtain ⟨rfl, rfl⟩ := Prod.mk.inj (HS.out.symm.trans es)
  clear es HS
  have c_hb3_0 := hb3.cell 0; have c_hb3_6 := hb3.cell 6; simp only [getRules] at c_hb3_0 c_hb3_6
  go_wp2_with fail
  (first | go_end0 | refine bodyPost_ret (results_none (by kernel_rfl) _ _ _) rfl ?_)
  have hMf : Mod w2 ((w2.setCell ⟨b, 6, none⟩ (.int .u64 x)).setCell ⟨b, 0, none⟩ (.int .i64 5)) [b] := ((Mod.refl _ _).setCell (.inl (by simp)) _).setCell (.inl (by simp)) _
  exact G.out.back n5 n6 (hMall.call hMf (by simp)) ((hb3.set_same 6 (.int .u64 x)).set_same 0 (.int .i64 5)) rfl (hm2.mod hMf (by simp; omega) (by simp; omega))

set_option maxRecDepth 100000 in
set_option maxHeartbeats 2000000 in
theorem takeEpoch (w : World) (_hf : FieldsAt w) (b m mb : Nat) (σ : MS) (v : Value) (g g' : TakeS) (σ' : MS) (hs : g.step σ = (g', σ')) (hl1 : g.line = 5) (h : TakeAt w b v g) (hm : MemAt w m mb σ)
    (n1 : b ≠ m) (n2 : b ≠ mb) (n5 : v.ownBlock ≠ some m) (n6 : v.ownBlock ≠ some mb) (n3 : 0 ≠ m) (n4 : 0 ≠ b) (n8 : 0 ≠ mb) :
    Calls Tryd.prog 64 #[.pointer (some ⟨b, 0, none⟩), .pointer (some ⟨m, 0, none⟩)] w (KLeft w b m mb v g' σ') := by
  obtain ⟨line, head, slot, ⟨es0, es1, es2, es3, es4, es5⟩, got⟩ := g
  simp only at hl1
  subst hl1
  have hb := h.has
  have G := Lib.hid h
  have hl := hb.lt
  have hml := hm.lt
  have hmbl := hm.ltb
  unfold TakeS.obj at hb
  have c2 := hb.cell 2
  simp only [getRules] at c2
  have HS := Lib.hid hs
  clear hs
  go_enter Tryd.func64, Tryd.ntmps64
  go_wp2_with fail
  refine (oword_any w slot 3).mono ?_
  rintro e w1 ⟨rfl, hw1⟩
  have hM1 : Mod w w1 [] := by
    rw [← hw1]
    exact (Mod.refl _ _).alloc _
  clear hw1
  have hb1 := hb.mod hM1 (by simp)
  have hm1 := hm.mod hM1 (by simp) (by simp)
  go_wp2_with fail
  refine (load_any w1 m mb σ hm1 9 slot 3).mono ?_
  rintro e w2 ⟨rfl, hM2, hm2⟩
  have hb3 := hb1.mod hM2 (by simp; omega)
  have hMall : Mod w w2 [m, mb, b] := (hM1.wider (by simp)).call hM2 (by simp)
  have hr := hm.range 9 slot 3
  have r0 := hr.1
  have R1 := Lib.hid hr.2
  clear hr c2
  generalize hg : σ.g 9 slot 3 = x at *
  have HG := Lib.hid hg
  clear hg
  have fz := hb3.frozen
  have hl3 := hb3.lt
  have es : (⟨5, head, slot, ⟨es0, es1, es2, es3, es4, es5⟩, got⟩ : TakeS).step σ = (⟨6, head, slot, ⟨es0, es1, es2, es3, x, es5⟩, got⟩, σ.load 9 slot 3) := by simp [TakeS.step, HG.out]
  obtain ⟨rfl, rfl⟩ := Prod.mk.inj (HS.out.symm.trans es)
  clear es HS
  have c_hb3_0 := hb3.cell 0; have c_hb3_7 := hb3.cell 7; simp only [getRules] at c_hb3_0 c_hb3_7
  go_wp2_with fail
  (first | go_end0 | refine bodyPost_ret (results_none (by kernel_rfl) _ _ _) rfl ?_)
  have hMf : Mod w2 ((w2.setCell ⟨b, 7, none⟩ (.int .u64 x)).setCell ⟨b, 0, none⟩ (.int .i64 6)) [b] := ((Mod.refl _ _).setCell (.inl (by simp)) _).setCell (.inl (by simp)) _
  exact G.out.back n5 n6 (hMall.call hMf (by simp)) ((hb3.set_same 7 (.int .u64 x)).set_same 0 (.int .i64 6)) rfl (hm2.mod hMf (by simp; omega) (by simp; omega))

theorem info_entry : ∃ i z, Tryd.prog.info? 50 = some i ∧ i.zero = some z ∧ i.size = 6 ∧ i.bytes = 40 ∧ z.cells.size = 6 := by
  have h : (Tryd.prog.info? 50).map (fun i => (i.size, i.bytes, i.zero.map (fun z => z.cells.size))) = some (6, 40, some 6) := by kernel_rfl
  cases hi : Tryd.prog.info? 50 with
  | none => simp [hi] at h
  | some i =>
    rw [hi] at h
    simp only [Option.map_some, Option.some.injEq, Prod.mk.injEq] at h
    cases hz : i.zero with
    | none => simp [hz] at h
    | some z => exact ⟨i, z, rfl, hz, h.1, h.2.1, by simpa [hz] using h.2.2⟩

set_option maxRecDepth 100000 in
set_option maxHeartbeats 2000000 in
theorem takeEra (w : World) (_hf : FieldsAt w) (b m mb : Nat) (σ : MS) (v : Value) (g g' : TakeS) (σ' : MS) (hs : g.step σ = (g', σ')) (hl1 : g.line = 6) (hok : g.Ok) (h : TakeAt w b v g) (hm : MemAt w m mb σ)
    (n1 : b ≠ m) (n2 : b ≠ mb) (n5 : v.ownBlock ≠ some m) (n6 : v.ownBlock ≠ some mb) (n3 : 0 ≠ m) (n4 : 0 ≠ b) (n8 : 0 ≠ mb) :
    Calls Tryd.prog 65 #[.pointer (some ⟨b, 0, none⟩), .pointer (some ⟨m, 0, none⟩)] w (KLeft w b m mb v g' σ') := by
  obtain ⟨line, head, slot, ⟨es0, es1, es2, es3, es4, es5⟩, got⟩ := g
  simp only at hl1
  subst hl1
  have hlen := hok.len
  simp only at hlen
  obtain ⟨i0, z0, hi0, hz0, hz1, hz2, hz3⟩ := info_entry
  clear hok
  have hb := h.has
  have G := Lib.hid h
  have hl := hb.lt
  have hml := hm.lt
  have hmbl := hm.ltb
  unfold TakeS.obj at hb
  have c2 := hb.cell 2
  simp only [getRules] at c2
  have HS := Lib.hid hs
  clear hs
  go_enter Tryd.func65, Tryd.ntmps65
  go_wp2_with fail
  refine (oword_any w slot 4).mono ?_
  rintro e w1 ⟨rfl, hw1⟩
  have hM1 : Mod w w1 [] := by
    rw [← hw1]
    exact (Mod.refl _ _).alloc _
  clear hw1
  have hb1 := hb.mod hM1 (by simp)
  have hm1 := hm.mod hM1 (by simp) (by simp)
  go_wp2_with fail
  refine (load_any w1 m mb σ hm1 9 slot 4).mono ?_
  rintro e w2 ⟨rfl, hM2, hm2⟩
  have hb3 := hb1.mod hM2 (by simp; omega)
  have hMall : Mod w w2 [m, mb, b] := (hM1.wider (by simp)).call hM2 (by simp)
  have hr := hm.range 9 slot 4
  have r0 := hr.1
  have R1 := Lib.hid hr.2
  clear hr c2
  generalize hg : σ.g 9 slot 4 = x at *
  have HG := Lib.hid hg
  clear hg
  have fz := hb3.frozen
  have hl3 := hb3.lt
  have es : (⟨6, head, slot, ⟨es0, es1, es2, es3, es4, es5⟩, got⟩ : TakeS).step σ = (⟨7, head, slot, ⟨es0, es1, es2, es3, es4, x⟩, got ++ [⟨es0, es1, es2, es3, es4, x⟩]⟩, σ.load 9 slot 4) := by simp [TakeS.step, HG.out]
  obtain ⟨rfl, rfl⟩ := Prod.mk.inj (HS.out.symm.trans es)
  clear es HS
  have c_hb3_0 := hb3.cell 0; have c_hb3_8 := hb3.cell 8; simp only [getRules] at c_hb3_0 c_hb3_8
  go_wp2_with fail
  have hMf : Mod w2 (w2.setCell ⟨b, 8, none⟩ (.int .u64 x)) [b] := (Mod.refl _ _).setCell (.inl (by simp)) _
  have hb4 := hb3.set_same 8 (.int .u64 x)
  simp only [List.setIfInBounds_toArray, List.set_cons_succ, List.set_cons_zero] at hb4
  have hm4 := hm2.mod hMf (by simp; omega) (by simp; omega)
  have hMall4 := hMall.call hMf (by simp)
  have hrow4 : EntRow (w2.setCell ⟨b, 8, none⟩ (.int .u64 x)) v got := Row.mod G.out.row hMall4 (fun y hy => by simp; exact ⟨fun e => n5 (by rw [hy, e]), fun e => n6 (by rw [hy, e]), fun e => G.out.ne (by rw [hy, e])⟩)
  generalize w2.setCell ⟨b, 8, none⟩ (.int .u64 x) = W at hb4 hm4 hMall4 hrow4 ⊢
  clear c_hb3_0 c_hb3_8 fz hl3 hMall hMf hm2 hM2 hm1 hb1 hM1 hb3
  have c_hb4_0 := hb4.cell 0; have c_hb4_3 := hb4.cell 3; have c_hb4_4 := hb4.cell 4; have c_hb4_5 := hb4.cell 5; have c_hb4_6 := hb4.cell 6; have c_hb4_7 := hb4.cell 7; have c_hb4_8 := hb4.cell 8; have c_hb4_9 := hb4.cell 9; simp only [getRules] at c_hb4_0 c_hb4_3 c_hb4_4 c_hb4_5 c_hb4_6 c_hb4_7 c_hb4_8 c_hb4_9
  have fz := hb4.frozen
  have hl4 := hb4.lt
  obtain ⟨pv, cv, rfl, hcv⟩ := Row.form hrow4
  have hnb : (Value.slice pv got.length cv).ownBlock ≠ some b := G.out.ne
  go_region_law ((refine step_append_lies _ (by rfl) _ _ 46 (by rfl) 0 50 i0 z0 6 40 Tryd.underlying46 hi0 hz0 hz1 hz2 hz3 (by decide) (.slice pv got.length cv) got.length (flat got) (by rfl) (Row.mod hrow4 (((Mod.refl _ []).drewN 0).alloc _) (by simp)).1 ⟨W.heap.size, 0, none⟩ 1 1 [.int .i64 es0, .int .u32 es1, .bool es2, .int .u64 es3, .int .u64 es4, .int .u64 x] (by rfl) (by rfl) (World.news_of_block (heap_alloc_new _ _)) (by intro u hu; simp at hu; rcases hu with rfl | rfl | rfl | rfl | rfl | rfl <;> rfl) (by omega) (by simp only [maxLen]; omega) (by omega) (Nat.zero_le _) (W.heap.size + 1) (by simp) ?_; intro gb cap w5 hown hgrow hat hlt5; have d9 := hgrow.cell_far ⟨b, 9, none⟩ (by simp; omega) (fun e => hnb e.symm); have f9 := hgrow.frozen_far ⟨b, 9, none⟩ (by simp; omega) (fun e => hnb e.symm)))
  all_goals
    have hM5 : Mod W w5 (Value.slice pv got.length cv).ownBlock.toList := by
      refine Mod.call ?_ (Mod.of_grown hgrow) (fun y hy => .inl hy)
      (repeat (first | with_reducible (first | exact Mod.refl _ _ | apply Mod.drewN | apply Mod.drew | apply Mod.alloc | refine Mod.setCell ?_ ?_ _ | refine Mod.put ?_ ?_ _) | focus (simp; done) | focus (simp; omega)))
    have hb5 := hb4.mod hM5 (by simpa using hnb)
    clear c_hb4_0 c_hb4_3 c_hb4_4 c_hb4_5 c_hb4_6 c_hb4_7 c_hb4_8 c_hb4_9 fz d9 f9
    have c_hb5_0 := hb5.cell 0; simp only [getRules] at c_hb5_0
    have fz := hb5.frozen
    have hl5 := hb5.lt
    have hgb : gb ≠ b := fun e => by
      rcases hat with h | h
      · exact hnb (by rw [h, e])
      · omega
    have HAT := Lib.hid hat
    have HG := Lib.hid hgrow
    clear hgrow hat
    go_wp2_with fail
    (first | go_end0 | refine bodyPost_ret (results_none (by kernel_rfl) _ _ _) rfl ?_)
    have hMf : Mod w5 ((w5.setCell ⟨b, 9, none⟩ (.slice (some ⟨gb, 0, none⟩) (got.length + 1) cap)).setCell ⟨b, 0, none⟩ (.int .i64 7)) [b] := ((Mod.refl _ _).setCell (.inl (by simp)) _).setCell (.inl (by simp)) _
    have hmn : ∀ y, (Value.slice pv got.length cv).ownBlock = some y → y ≠ m ∧ y ≠ mb := fun y hy => ⟨fun e => n5 (by rw [hy, e]), fun e => n6 (by rw [hy, e])⟩
    have hm5 := hm4.mod hM5 (by simpa using n5) (by simpa using n6)
    refine ⟨rfl, ?_, hm5.mod hMf (by simp; omega) (by simp; omega), .slice (some ⟨gb, 0, none⟩) (got.length + 1) cap, ⟨(hb5.set_same 9 _).set_same 0 (.int .i64 7), ?_, by simpa [Value.ownBlock] using hgb⟩, ?_⟩
    · exact (((hMall4.wider (fun y hy => .inl (by simp at hy ⊢; rcases hy with h | h | h <;> simp [h]))).call hM5 (fun y hy => .inl (by simp at hy ⊢; simp [hy]))).call hMf (fun y hy => .inl (by simp at hy ⊢; simp [hy])))
    · have h6 : Row w5 50 6 (.slice (some ⟨gb, 0, none⟩) (got.length + 1) cap) (got.length + 1) (flat (got ++ [⟨es0, es1, es2, es3, es4, x⟩])) := by
        refine ⟨?_, flat_one _⟩
        rw [flat_append]
        exact hown
      unfold EntRow
      rw [List.length_append]
      exact Row.mod h6 hMf (fun y hy => by cases hy; simpa using hgb)
    · intro y hy
      cases hy
      rcases HAT.out with h | h
      · exact .inl h
      · have := hMall4.size
        right
        show w.heap.size ≤ gb
        omega

set_option maxRecDepth 100000 in
set_option maxHeartbeats 2000000 in
theorem takeNext (w : World) (hf : FieldsAt w) (b m mb : Nat) (σ : MS) (v : Value) (g g' : TakeS) (σ' : MS) (hs : g.step σ = (g', σ')) (hl1 : g.line = 7) (hok : g.Ok) (h : TakeAt w b v g) (hm : MemAt w m mb σ)
    (n1 : b ≠ m) (n2 : b ≠ mb) (n5 : v.ownBlock ≠ some m) (n6 : v.ownBlock ≠ some mb) (n3 : 0 ≠ m) (n4 : 0 ≠ b) (n8 : 0 ≠ mb) :
    Calls Tryd.prog 66 #[.pointer (some ⟨b, 0, none⟩), .pointer (some ⟨m, 0, none⟩)] w (KLeft w b m mb v g' σ') := by
  obtain ⟨line, head, slot, ⟨es0, es1, es2, es3, es4, es5⟩, got⟩ := g
  simp only at hl1
  subst hl1
  have hlen := hok.len
  simp only at hlen
  clear hok
  have hb := h.has
  have G := Lib.hid h
  have hl := hb.lt
  have hml := hm.lt
  have hmbl := hm.ltb
  unfold TakeS.obj at hb
  have c2 := hb.cell 2
  simp only [getRules] at c2
  have HS := Lib.hid hs
  clear hs
  go_enter Tryd.func66, Tryd.ntmps66
  go_wp2_with fail
  refine (oword_any w slot 2).mono ?_
  rintro e w1 ⟨rfl, hw1⟩
  have hM1 : Mod w w1 [] := by
    rw [← hw1]
    exact (Mod.refl _ _).alloc _
  clear hw1
  have hb1 := hb.mod hM1 (by simp)
  have hm1 := hm.mod hM1 (by simp) (by simp)
  go_wp2_with fail
  refine (load_any w1 m mb σ hm1 9 slot 2).mono ?_
  rintro e w2 ⟨rfl, hM2, hm2⟩
  have hb3 := hb1.mod hM2 (by simp; omega)
  have hMall : Mod w w2 [m, mb, b] := (hM1.wider (by simp)).call hM2 (by simp)
  have hr := hm.range 9 slot 2
  have r0 := hr.1
  have R1 := Lib.hid hr.2
  clear hr c2
  generalize hg : σ.g 9 slot 2 = x at *
  have HG := Lib.hid hg
  clear hg
  have fz := hb3.frozen
  have hl3 := hb3.lt
  have hf3 := hf.mod hMall (by simp; exact ⟨n3, n8, n4⟩)
  have c_hb3_0 := hb3.cell 0; have c_hb3_2 := hb3.cell 2; have c_hb3_9 := hb3.cell 9; simp only [getRules] at c_hb3_0 c_hb3_2 c_hb3_9
  obtain ⟨pv, cv, rfl, hcv⟩ := Row.form G.out.row
  go_wp2_with fail
  refine (asHead_any w2 hf3 x r0 R1.out).mono ?_
  rintro e w4 ⟨rfl, n, rfl⟩
  have hMe : ∀ ln : Int, Mod w2 ((((w2.drewN n).setCell ⟨b, 0, none⟩ (.int .i64 3)).setCell ⟨b, 0, none⟩ (.int .i64 ln)).setCell ⟨b, 2, none⟩ (.int .i64 (slotW x))) [b] := fun ln => ((((Mod.refl _ _).drewN n).setCell (.inl (by simp)) _).setCell (.inl (by simp)) _).setCell (.inl (by simp)) _
  have hMf : Mod w2 (((w2.drewN n).setCell ⟨b, 0, none⟩ (.int .i64 3)).setCell ⟨b, 2, none⟩ (.int .i64 (slotW x))) [b] := (((Mod.refl _ _).drewN n).setCell (.inl (by simp)) _).setCell (.inl (by simp)) _
  by_cases hx : slotW x < 0
  · have es : (⟨7, head, slot, ⟨es0, es1, es2, es3, es4, es5⟩, got⟩ : TakeS).step σ = (⟨0, head, slotW x, ⟨es0, es1, es2, es3, es4, es5⟩, got⟩, σ.load 9 slot 2) := by simp [TakeS.step, HG.out, hx]
    obtain ⟨rfl, rfl⟩ := Prod.mk.inj (HS.out.symm.trans es)
    clear es HS
    go_wp2_with fail
    (first | go_end0 | refine bodyPost_ret (results_none (by kernel_rfl) _ _ _) rfl ?_)
    exact G.out.back n5 n6 (hMall.call (hMe 0) (by simp)) ((((hb3.drewN n).set_same 0 (.int .i64 3)).set_same 0 (.int .i64 0)).set_same 2 (.int .i64 (slotW x))) rfl (hm2.mod (hMe 0) (by simp; omega) (by simp; omega))
  · by_cases hg : 256 ≤ got.length
    · have es : (⟨7, head, slot, ⟨es0, es1, es2, es3, es4, es5⟩, got⟩ : TakeS).step σ = (⟨0, head, slotW x, ⟨es0, es1, es2, es3, es4, es5⟩, got⟩, σ.load 9 slot 2) := by simp [TakeS.step, HG.out, hg]
      obtain ⟨rfl, rfl⟩ := Prod.mk.inj (HS.out.symm.trans es)
      have hx' : 0 ≤ slotW x := by omega
      have hgI : (256 : Int) ≤ got.length := by omega
      clear es HS
      go_wp2_with fail
      (first | go_end0 | refine bodyPost_ret (results_none (by kernel_rfl) _ _ _) rfl ?_)
      exact G.out.back n5 n6 (hMall.call (hMe 0) (by simp)) ((((hb3.drewN n).set_same 0 (.int .i64 3)).set_same 0 (.int .i64 0)).set_same 2 (.int .i64 (slotW x))) rfl (hm2.mod (hMe 0) (by simp; omega) (by simp; omega))
    · have es : (⟨7, head, slot, ⟨es0, es1, es2, es3, es4, es5⟩, got⟩ : TakeS).step σ = (⟨3, head, slotW x, ⟨es0, es1, es2, es3, es4, es5⟩, got⟩, σ.load 9 slot 2) := by simp [TakeS.step, HG.out, hg, hx]
      obtain ⟨rfl, rfl⟩ := Prod.mk.inj (HS.out.symm.trans es)
      have hx' : 0 ≤ slotW x := by omega
      have hgI : (got.length : Int) < 256 := by omega
      clear es HS
      go_wp2_with fail
      (first | go_end0 | refine bodyPost_ret (results_none (by kernel_rfl) _ _ _) rfl ?_)
      exact G.out.back n5 n6 (hMall.call hMf (by simp)) (((hb3.drewN n).set_same 0 (.int .i64 3)).set_same 2 (.int .i64 (slotW x))) rfl (hm2.mod hMf (by simp; omega) (by simp; omega))

theorem takeOver_any (w : World) (b : Nat) (v : Value) (g : TakeS) (h : Has w b (g.obj v)) :
    Calls Tryd.prog 23 #[.pointer (some ⟨b, 0, none⟩)] w fun e w' => e = .returned (.bool (g.line == 0)) ∧ w = w' := by
  unfold TakeS.obj at h
  go_enter Tryd.func23, Tryd.ntmps23
  go_wp2_with fail
  refine (oover_any w b g.line _ _ h rfl).mono ?_
  rintro e w1 ⟨rfl, rfl⟩
  go_wp2
  go_ret
  exact ⟨rfl, rfl⟩

@[go_sem] theorem index_take1 (a b c d e f g h : Value) (w : World) : (Instr.index 128 (.agg #[a, b, c, d, e, f, g, h]) (.int .i64 1)).run Tryd.prog w = .ok b w := by kernel_rfl
@[go_sem] theorem index_take2 (a b c d e f g h : Value) (w : World) : (Instr.index 128 (.agg #[a, b, c, d, e, f, g, h]) (.int .i64 2)).run Tryd.prog w = .ok c w := by kernel_rfl
@[go_sem] theorem index_take3 (a b c d e f g h : Value) (w : World) : (Instr.index 128 (.agg #[a, b, c, d, e, f, g, h]) (.int .i64 3)).run Tryd.prog w = .ok d w := by kernel_rfl
@[go_sem] theorem index_take4 (a b c d e f g h : Value) (w : World) : (Instr.index 128 (.agg #[a, b, c, d, e, f, g, h]) (.int .i64 4)).run Tryd.prog w = .ok e w := by kernel_rfl
@[go_sem] theorem index_take5 (a b c d e f g h : Value) (w : World) : (Instr.index 128 (.agg #[a, b, c, d, e, f, g, h]) (.int .i64 5)).run Tryd.prog w = .ok f w := by kernel_rfl
@[go_sem] theorem index_take6 (a b c d e f g h : Value) (w : World) : (Instr.index 128 (.agg #[a, b, c, d, e, f, g, h]) (.int .i64 6)).run Tryd.prog w = .ok g w := by kernel_rfl
@[go_sem] theorem index_take7 (a b c d e f g h : Value) (w : World) : (Instr.index 128 (.agg #[a, b, c, d, e, f, g, h]) (.int .i64 7)).run Tryd.prog w = .ok h w := by kernel_rfl

def KStep (w : World) (b m mb : Nat) (v : Value) (line : Int) (t : TakeS) (σ : MS) (e : Ending) (w' : World) : Prop :=
  e = .returned (.bool (line == 0)) ∧ Mod w w' (m :: mb :: b :: v.ownBlock.toList) ∧ MemAt w' m mb σ ∧ ∃ v', TakeAt w' b v' t ∧ (∀ y, v'.ownBlock = some y → v.ownBlock = some y ∨ w.heap.size ≤ y)

set_option maxRecDepth 100000 in
set_option maxHeartbeats 2000000 in
theorem takeStep_any (w : World) (hf : FieldsAt w) (b m mb : Nat) (σ : MS) (v : Value) (g : TakeS) (hok : g.Ok) (h : TakeAt w b v g) (hm : MemAt w m mb σ)
    (n1 : b ≠ m) (n2 : b ≠ mb) (n5 : v.ownBlock ≠ some m) (n6 : v.ownBlock ≠ some mb) (n3 : 0 ≠ m) (n4 : 0 ≠ b) (n8 : 0 ≠ mb) :
    Calls Tryd.prog 24 #[.pointer (some ⟨b, 0, none⟩), .pointer (some ⟨m, 0, none⟩)] w (KStep w b m mb v (g.step σ).1.line (g.step σ).1 (g.step σ).2) := by
  obtain ⟨g', σ', hs⟩ : ∃ g' σ', g.step σ = (g', σ') := ⟨_, _, rfl⟩
  rw [hs]
  have c0 := h.has.cell 0
  unfold TakeS.obj at c0
  simp only [getRules] at c0
  rcases hok.line with h0 | h0 | h0 | h0 | h0 | h0 | h0 | h0
  · have es : g.step σ = (g, σ) := by simp [TakeS.step, h0]
    rw [es] at hs
    obtain ⟨rfl, rfl⟩ := Prod.mk.inj hs
    have hzb : (g.line == 0) = true := by simp [h0]
    clear hs es
    go_enter Tryd.func24, Tryd.ntmps24
    go_wp2_with fail
    refine (takeOver_any w b v g h.has).mono ?_
    rintro e w1 ⟨rfl, rfl⟩
    rw [hzb]
    go_wp2_with fail
    refine (takeOver_any w b v g h.has).mono ?_
    rintro e w1 ⟨rfl, rfl⟩
    go_wp2_with fail
    go_ret
    exact ⟨by rw [hzb]; rfl, Mod.refl _ _, hm, v, h, fun y hy => .inl hy⟩

  · have hL := takeFirst w hf b m mb σ v g g' σ' hs h0 h hm n1 n2 n5 n6 n3 n4 n8
    have HL := Lib.hid hL
    have hzb : (g.line == 0) = false := by simp [h0]
    rw [h0] at c0
    clear hL hs
    go_enter Tryd.func24, Tryd.ntmps24
    go_wp2_with fail
    refine (takeOver_any w b v g h.has).mono ?_
    rintro e w1 ⟨rfl, rfl⟩
    rw [hzb]
    go_wp2_with fail
    refine HL.out.mono ?_
    rintro e w2 ⟨rfl, hM, hm2, v2, h2, hv2⟩
    have HV := Lib.hid hv2
    clear hv2
    go_wp2_with fail
    refine (takeOver_any w2 b v2 g' h2.has).mono ?_
    rintro e w1 ⟨rfl, rfl⟩
    go_wp2_with fail
    go_ret
    exact ⟨rfl, hM, hm2, v2, h2, HV.out⟩
  · have hL := takeAll w hf b m mb σ v g g' σ' hs h0 hok h hm n1 n2 n5 n6 n3 n4 n8
    have HL := Lib.hid hL
    have hzb : (g.line == 0) = false := by simp [h0]
    rw [h0] at c0
    clear hL hs
    go_enter Tryd.func24, Tryd.ntmps24
    go_wp2_with fail
    refine (takeOver_any w b v g h.has).mono ?_
    rintro e w1 ⟨rfl, rfl⟩
    rw [hzb]
    go_wp2_with fail
    refine HL.out.mono ?_
    rintro e w2 ⟨rfl, hM, hm2, v2, h2, hv2⟩
    have HV := Lib.hid hv2
    clear hv2
    go_wp2_with fail
    refine (takeOver_any w2 b v2 g' h2.has).mono ?_
    rintro e w1 ⟨rfl, rfl⟩
    go_wp2_with fail
    go_ret
    exact ⟨rfl, hM, hm2, v2, h2, HV.out⟩
  · have hL := takeHeader w hf b m mb σ v g g' σ' hs h0 h hm n1 n2 n5 n6 n3 n4 n8
    have HL := Lib.hid hL
    have hzb : (g.line == 0) = false := by simp [h0]
    rw [h0] at c0
    clear hL hs
    go_enter Tryd.func24, Tryd.ntmps24
    go_wp2_with fail
    refine (takeOver_any w b v g h.has).mono ?_
    rintro e w1 ⟨rfl, rfl⟩
    rw [hzb]
    go_wp2_with fail
    refine HL.out.mono ?_
    rintro e w2 ⟨rfl, hM, hm2, v2, h2, hv2⟩
    have HV := Lib.hid hv2
    clear hv2
    go_wp2_with fail
    refine (takeOver_any w2 b v2 g' h2.has).mono ?_
    rintro e w1 ⟨rfl, rfl⟩
    go_wp2_with fail
    go_ret
    exact ⟨rfl, hM, hm2, v2, h2, HV.out⟩
  · have hL := takeBirth w hf b m mb σ v g g' σ' hs h0 h hm n1 n2 n5 n6 n3 n4 n8
    have HL := Lib.hid hL
    have hzb : (g.line == 0) = false := by simp [h0]
    rw [h0] at c0
    clear hL hs
    go_enter Tryd.func24, Tryd.ntmps24
    go_wp2_with fail
    refine (takeOver_any w b v g h.has).mono ?_
    rintro e w1 ⟨rfl, rfl⟩
    rw [hzb]
    go_wp2_with fail
    refine HL.out.mono ?_
    rintro e w2 ⟨rfl, hM, hm2, v2, h2, hv2⟩
    have HV := Lib.hid hv2
    clear hv2
    go_wp2_with fail
    refine (takeOver_any w2 b v2 g' h2.has).mono ?_
    rintro e w1 ⟨rfl, rfl⟩
    go_wp2_with fail
    go_ret
    exact ⟨rfl, hM, hm2, v2, h2, HV.out⟩
  · have hL := takeEpoch w hf b m mb σ v g g' σ' hs h0 h hm n1 n2 n5 n6 n3 n4 n8
    have HL := Lib.hid hL
    have hzb : (g.line == 0) = false := by simp [h0]
    rw [h0] at c0
    clear hL hs
    go_enter Tryd.func24, Tryd.ntmps24
    go_wp2_with fail
    refine (takeOver_any w b v g h.has).mono ?_
    rintro e w1 ⟨rfl, rfl⟩
    rw [hzb]
    go_wp2_with fail
    refine HL.out.mono ?_
    rintro e w2 ⟨rfl, hM, hm2, v2, h2, hv2⟩
    have HV := Lib.hid hv2
    clear hv2
    go_wp2_with fail
    refine (takeOver_any w2 b v2 g' h2.has).mono ?_
    rintro e w1 ⟨rfl, rfl⟩
    go_wp2_with fail
    go_ret
    exact ⟨rfl, hM, hm2, v2, h2, HV.out⟩
  · have hL := takeEra w hf b m mb σ v g g' σ' hs h0 hok h hm n1 n2 n5 n6 n3 n4 n8
    have HL := Lib.hid hL
    have hzb : (g.line == 0) = false := by simp [h0]
    rw [h0] at c0
    clear hL hs
    go_enter Tryd.func24, Tryd.ntmps24
    go_wp2_with fail
    refine (takeOver_any w b v g h.has).mono ?_
    rintro e w1 ⟨rfl, rfl⟩
    rw [hzb]
    go_wp2_with fail
    refine HL.out.mono ?_
    rintro e w2 ⟨rfl, hM, hm2, v2, h2, hv2⟩
    have HV := Lib.hid hv2
    clear hv2
    go_wp2_with fail
    refine (takeOver_any w2 b v2 g' h2.has).mono ?_
    rintro e w1 ⟨rfl, rfl⟩
    go_wp2_with fail
    go_ret
    exact ⟨rfl, hM, hm2, v2, h2, HV.out⟩
  · have hL := takeNext w hf b m mb σ v g g' σ' hs h0 hok h hm n1 n2 n5 n6 n3 n4 n8
    have HL := Lib.hid hL
    have hzb : (g.line == 0) = false := by simp [h0]
    rw [h0] at c0
    clear hL hs
    go_enter Tryd.func24, Tryd.ntmps24
    go_wp2_with fail
    refine (takeOver_any w b v g h.has).mono ?_
    rintro e w1 ⟨rfl, rfl⟩
    rw [hzb]
    go_wp2_with fail
    refine HL.out.mono ?_
    rintro e w2 ⟨rfl, hM, hm2, v2, h2, hv2⟩
    have HV := Lib.hid hv2
    clear hv2
    go_wp2_with fail
    refine (takeOver_any w2 b v2 g' h2.has).mono ?_
    rintro e w1 ⟨rfl, rfl⟩
    go_wp2_with fail
    go_ret
    exact ⟨rfl, hM, hm2, v2, h2, HV.out⟩

theorem newTake_any (w : World) : Calls Tryd.prog 22 #[] w fun e w' => e = .returned (.pointer (some ⟨w.heap.size, 0, none⟩)) ∧ w.alloc (TakeS.new.obj (.slice none 0 0)) = w' := by
  go_enter Tryd.func22, Tryd.ntmps22
  go_wp2
  go_ret
  exact ⟨rfl, rfl⟩

end Go.Proofs.YtghkdkdlbkmicaaDoor
