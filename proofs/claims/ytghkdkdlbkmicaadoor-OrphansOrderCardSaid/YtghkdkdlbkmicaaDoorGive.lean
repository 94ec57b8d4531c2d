/- A Give: what each step of it does. -/
import Derived.Test.YtghkdkdlbkmicaaDoorOrphans
namespace Go.Proofs.YtghkdkdlbkmicaaDoor
open Go.RowKit

structure GiveS where
  line : Int
  head : Int
  slots : List Int
  at_ : Nat
def GiveS.obj (g : GiveS) (v : Value) : Obj := .cells #[.int .i64 g.line, .int .u64 g.head, v, .int .i64 g.at_] 76
/-- A Give lies in block b, its slots' row is v. -/
structure GiveAt (w : World) (b : Nat) (v : Value) (g : GiveS) : Prop where
  has : Has w b (g.obj v)
  row : IntRow w v g.slots
  ne : v.ownBlock ≠ some b
def GiveS.step (g : GiveS) (σ : MS) : GiveS × MS :=
  if g.line = 1 then ({ g with at_ := g.at_ + 1, line := if g.at_ + 2 = g.slots.length then 2 else 1 }, σ.store 9 (g.slots.getD g.at_ 0) 2 (headW (g.slots.getD (g.at_ + 1) 0) 0))
  else if g.line = 2 then ({ g with head := σ.g 4 0 0, line := 3 }, σ.load 4 0 0)
  else if g.line = 3 then ({ g with line := 4 }, σ.store 9 (g.slots.getD (g.slots.length - 1) 0) 2 (headW (slotW g.head) 0))
  else if g.line = 4 then ({ g with line := if (σ.g 4 0 0 == g.head) = true then 0 else 2 }, σ.cas 4 0 0 g.head (headW (g.slots.getD 0 0) (g.head / 65536 + 1)))
  else (g, σ)
structure GiveS.Ok (g : GiveS) : Prop where
  line : g.line = 0 ∨ (g.line = 1 ∧ g.at_ + 2 ≤ g.slots.length) ∨ g.line = 2 ∨ g.line = 3 ∨ g.line = 4
  some_ : g.line ≠ 0 → 1 ≤ g.slots.length
  len : g.slots.length ≤ 1000
  slots : ∀ s ∈ g.slots, 0 ≤ s ∧ s < 256
  head0 : 0 ≤ g.head
  head1 : g.head < 18446744073709551616

/-- What a Give's line leaves. -/
def GLeft (w : World) (b m mb : Nat) (v : Value) (g : GiveS) (σ : MS) (e : Ending) (w' : World) : Prop :=
  e = .returned (.tuple #[]) ∧ Mod w w' [m, mb, b] ∧ MemAt w' m mb σ ∧ GiveAt w' b v g

theorem mayA_slot {s f : Int} (h : 0 ≤ s ∧ s < 256) (f0 : 0 ≤ f) (f1 : f < 8) : mayA 9 s f = true := by
  simp [mayA, roomAt, roomF]
  omega

/-- .. behind a call and stores into its own block. -/
theorem GiveAt.back {w w' : World} {b : Nat} {v : Value} {g g' : GiveS} {S : List Nat} (h : GiveAt w b v g) (hM : Mod w w' S) (hS : ∀ y, v.ownBlock = some y → y ∉ S) (hb : Has w' b (g'.obj v)) (hs : g'.slots = g.slots) : GiveAt w' b v g' :=
  ⟨hb, by unfold IntRow; rw [hs]; exact Row.mod h.row hM hS, h.ne⟩

set_option maxRecDepth 100000 in
set_option maxHeartbeats 2000000 in
theorem giveLink (w : World) (hf : FieldsAt w) (b m mb : Nat) (σ : MS) (v : Value) (g g' : GiveS) (σ' : MS) (hs : g.step σ = (g', σ')) (hl1 : g.line = 1) (hok : g.Ok) (h : GiveAt w b v g) (hm : MemAt w m mb σ)
    (n1 : b ≠ m) (n2 : b ≠ mb) (n5 : v.ownBlock ≠ some m) (n6 : v.ownBlock ≠ some mb) (n3 : 0 ≠ m) (n4 : 0 ≠ b) :
    Calls Tryd.prog 70 #[.pointer (some ⟨b, 0, none⟩), .pointer (some ⟨m, 0, none⟩)] w (GLeft w b m mb v g' σ') := by
  obtain ⟨line, head, slots, at_⟩ := g
  have hline := hok.line
  simp only at hl1 hline
  subst hl1
  have hat : at_ + 2 ≤ slots.length := by omega
  have hlen := hok.len
  have hsl := hok.slots
  simp only at hlen hsl
  have es : (⟨1, head, slots, at_⟩ : GiveS).step σ = (⟨if at_ + 2 = slots.length then 2 else 1, head, slots, at_ + 1⟩, σ.store 9 slots[at_] 2 (headW slots[at_ + 1] 0)) := by
    simp only [GiveS.step]
    rw [if_pos trivial, List.getD_eq_getElem?_getD, List.getElem?_eq_getElem (by omega), List.getD_eq_getElem?_getD, List.getElem?_eq_getElem (by omega)]
    rfl
  have hrow := h.row
  simp only at hrow
  obtain ⟨gb, c, hv, hc, c1⟩ := hrow.cell (j := at_) (by omega)
  obtain ⟨gb', c', hv', _, c2⟩ := hrow.cell (j := at_ + 1) (by omega)
  have hbb : gb' = gb ∧ c' = c := by
    rw [hv] at hv'
    simp at hv'
    exact ⟨hv'.1.symm, hv'.2.symm⟩
  obtain ⟨rfl, rfl⟩ := hbb
  clear hv'
  subst hv
  have hs1 := hsl slots[at_] (List.getElem_mem _)
  have hs2 := hsl slots[at_ + 1] (List.getElem_mem _)
  obtain ⟨ln, hln⟩ : ∃ ln : Int, (if at_ + 2 = slots.length then 2 else 1) = ln := ⟨_, rfl⟩
  rw [hln] at es
  have HLN := Lib.hid hln
  obtain ⟨rfl, rfl⟩ := Prod.mk.inj (hs.symm.trans es)
  clear hs es hline hln
  have hgm : gb' ≠ m := fun e => n5 (by rw [e]; rfl)
  have hgmb : gb' ≠ mb := fun e => n6 (by rw [e]; rfl)
  have hgb : gb' ≠ b := fun e => h.ne (by rw [e]; rfl)
  have hgl : gb' < w.heap.size := hrow.lt rfl
  have hb := h.has
  have hbl := hb.lt
  have hml := hm.lt
  have hmbl := hm.ltb
  have hfl := hf.lt
  have hh := headW_range slots[at_ + 1] 0
  have Hh := Lib.hid hh
  have hmay := mayA_slot hs1 (f := 2) (by omega) (by omega)
  have G := Lib.hid h
  generalize slots[at_] = s at *
  generalize slots[at_ + 1] = nx at *
  unfold GiveS.obj at hb
  have c_hb_0 := hb.cell 0; have c_hb_2 := hb.cell 2; have c_hb_3 := hb.cell 3; simp only [getRules] at c_hb_0 c_hb_2 c_hb_3
  have ew : IntKind.i64.wrap ((at_ : Int) + 1) = at_ + 1 := by
    rw [IntKind.wrap_i64]
    omega
  have e0 : (0 : Int) ≤ at_ := by omega
  have e1 : (at_ : Int) < slots.length := by omega
  have e2 : (at_ : Int) + 1 < slots.length := by omega
  have e3 : ((at_ : Int) + 1).toNat = at_ + 1 := by omega
  have e4 : (0 : Int) ≤ (at_ : Int) + 1 := by omega
  clear h hrow hok hsl hs1 hs2 hh
  go_enter Tryd.func70, Tryd.ntmps70
  go_wp2_with fail
  go_region_held3 (fun W => W.cell? ⟨b, 2, none⟩ = some (.slice (some ⟨gb', 0, none⟩) slots.length c') ∧ W.cell? ⟨b, 3, none⟩ = some (.int .i64 at_) ∧ W.cell? ⟨gb', at_, none⟩ = some (.int .i64 s) ∧ W.cell? ⟨gb', at_ + 1, none⟩ = some (.int .i64 nx))
    (first | exact ⟨by assumption, by assumption, by assumption, by assumption⟩ | (simp [go_sem, c_hb_2, c_hb_3, c1, c2, hbl, hgl]))
    (first | (go_at_call 111; go_must (refine (oword_any _ s 2).mono ?_; rintro e w1 ⟨rfl, rfl⟩)) | (go_at_call 113; go_must (refine (head_any _ (hf.mod (S := []) (by (repeat (first | with_reducible (first | exact Mod.refl _ _ | apply Mod.drewN | apply Mod.drew | apply Mod.alloc | refine Mod.setCell ?_ ?_ _ | refine Mod.put ?_ ?_ _) | focus (simp; done) | focus (simp; omega)))) (by first | (simp; done) | (simp; omega))) nx 0 (by omega) (by omega)).mono ?_; rintro e w1 ⟨rfl, n3, rfl⟩)) | (go_at_call 11; go_must (refine (store_any _ m mb σ (hm.mod (S := []) (by (repeat (first | with_reducible (first | exact Mod.refl _ _ | apply Mod.drewN | apply Mod.drew | apply Mod.alloc | refine Mod.setCell ?_ ?_ _ | refine Mod.put ?_ ?_ _) | focus (simp; done) | focus (simp; omega)))) (by simp) (by simp)) 9 s 2 (headW nx 0) Hh.out.1 Hh.out.2 hmay).mono ?_; rintro e w1 ⟨rfl, hm1, h1⟩; have hM : Mod w w1 [m, mb] := (by (repeat (first | with_reducible (first | exact hm1 | exact Mod.refl _ _ | apply Mod.drewN | apply Mod.drew | apply Mod.alloc | refine Mod.setCell ?_ ?_ _ | refine Mod.put ?_ ?_ _ | refine Mod.call ?_ hm1 ?_) | focus (simp; done) | focus (simp; omega)))); have hb4 := hb.mod hM (by simp; omega); have k1 := cell_mod c1 hM (by simp; omega); have k2 := cell_mod c2 hM (by simp; omega); clear c1 c2 c_hb_0 c_hb_2 c_hb_3; have c_hb4_0 := hb4.cell 0; have c_hb4_2 := hb4.cell 2; have c_hb4_3 := hb4.cell 3; simp only [getRules] at c_hb4_0 c_hb4_2 c_hb4_3; have fz4 := hb4.frozen; have hl7 := hb4.lt)))
  have ew2 : IntKind.i64.wrap ((slots.length : Int) - 1) = slots.length - 1 := by
    rw [IntKind.wrap_i64]
    omega
  have hMf : Mod w1 (w1.setCell ⟨b, 3, none⟩ (.int .i64 ((at_ : Int) + 1))) [b] := (Mod.refl _ _).setCell (.inl (by simp)) _
  have hset := hb4.set_same 3 (.int .i64 ((at_ : Int) + 1))
  simp only [List.setIfInBounds_toArray, List.set_cons_succ, List.set_cons_zero] at hset
  have H4 := Lib.hid h1
  clear h1
  by_cases hlast : at_ + 2 = slots.length
  · have hq : ((at_ : Int) + 1 == (slots.length : Int) - 1) = true := by
      simp
      omega
    go_wp2_with fail
    go_quiet (fail)
    go_wp2_with fail
    (first | go_end0 | refine bodyPost_ret (results_none (by kernel_rfl) _ _ _) rfl ?_)
    have hln : ln = 2 := by rw [← HLN.out, if_pos hlast]
    rw [hln]
    have hMg : Mod w1 (((w1.setCell ⟨b, 3, none⟩ (.int .i64 ((at_ : Int) + 1))).setCell ⟨b, 0, none⟩ (.int .i64 2)).drewN nq) [b] := (hMf.setCell (.inl (by simp)) _).drewN nq
    refine ⟨rfl, (hM.wider (by simp)).call hMg (by simp), H4.out.mod hMg (by simp; omega) (by simp; omega), ?_⟩
    exact G.out.back (g' := ⟨2, head, slots, at_ + 1⟩) ((hM.wider (by simp)).call hMg (by simp) : Mod w _ [m, mb, b]) (fun y hy => by cases hy; simp; exact ⟨hgm, hgmb, hgb⟩) ((hset.set_same 0 (.int .i64 2)).drewN nq) rfl
  · have hq : ((at_ : Int) + 1 == (slots.length : Int) - 1) = false := by
      simp
      omega
    go_wp2_with fail
    go_quiet (fail)
    go_wp2_with fail
    (first | go_end0 | refine bodyPost_ret (results_none (by kernel_rfl) _ _ _) rfl ?_)
    have hln : ln = 1 := by rw [← HLN.out, if_neg hlast]
    rw [hln]
    have hMg : Mod w1 ((w1.setCell ⟨b, 3, none⟩ (.int .i64 ((at_ : Int) + 1))).drewN nq) [b] := hMf.drewN nq
    refine ⟨rfl, (hM.wider (by simp)).call hMg (by simp), H4.out.mod hMg (by simp; omega) (by simp; omega), ?_⟩
    exact G.out.back (g' := ⟨1, head, slots, at_ + 1⟩) ((hM.wider (by simp)).call hMg (by simp) : Mod w _ [m, mb, b]) (fun y hy => by cases hy; simp; exact ⟨hgm, hgmb, hgb⟩) (hset.drewN nq) rfl

set_option maxRecDepth 100000 in
set_option maxHeartbeats 2000000 in
theorem giveFirst (w : World) (hf : FieldsAt w) (b m mb : Nat) (σ : MS) (v : Value) (g g' : GiveS) (σ' : MS) (hs : g.step σ = (g', σ')) (hl1 : g.line = 2) (h : GiveAt w b v g) (hm : MemAt w m mb σ)
    (n1 : b ≠ m) (n2 : b ≠ mb) (n5 : v.ownBlock ≠ some m) (n6 : v.ownBlock ≠ some mb) (n3 : 0 ≠ m) (n4 : 0 ≠ b) :
    Calls Tryd.prog 71 #[.pointer (some ⟨b, 0, none⟩), .pointer (some ⟨m, 0, none⟩)] w (GLeft w b m mb v g' σ') := by
  obtain ⟨line, head, slots, at_⟩ := g
  simp only at hl1
  subst hl1
  have es : (⟨2, head, slots, at_⟩ : GiveS).step σ = (⟨3, σ.g 4 0 0, slots, at_⟩, σ.load 4 0 0) := by simp [GiveS.step]
  obtain ⟨rfl, rfl⟩ := Prod.mk.inj (hs.symm.trans es)
  clear hs es
  have hb := h.has
  unfold GiveS.obj at hb
  have hne := h.ne
  have G := Lib.hid h
  go_enter Tryd.func71, Tryd.ntmps71
  go_wp2_with fail
  refine (oload_any w hf b m mb σ _ _ _ hb rfl hm n1 n2 n3 n4).mono ?_
  rintro e w1 ⟨rfl, hM1, hm1, hb1⟩
  simp only [List.setIfInBounds_toArray, List.set_cons_succ, List.set_cons_zero] at hb1
  generalize hg : σ.g 4 0 0 = x at *
  have HG := Lib.hid hg
  clear hg
  have c_hb1_0 := hb1.cell 0; simp only [getRules] at c_hb1_0
  have fz := hb1.frozen
  have hl3 := hb1.lt
  go_wp2_with fail
  (first | go_end0 | refine bodyPost_ret (results_none (by kernel_rfl) _ _ _) rfl ?_)
  have hMf : Mod w1 (w1.setCell ⟨b, 0, none⟩ (.int .i64 3)) [b] := (Mod.refl _ _).setCell (.inl (by simp)) _
  refine ⟨rfl, (hM1.wider (by simp)).call hMf (by simp), hm1.mod hMf (by simp; omega) (by simp; omega), ?_⟩
  exact G.out.back (g' := ⟨3, x, slots, at_⟩) ((hM1.wider (by simp)).call hMf (by simp) : Mod w _ [m, mb, b]) (fun y hy => by simp; exact ⟨fun e => n5 (by rw [hy, e]), fun e => n6 (by rw [hy, e]), fun e => hne (by rw [hy, e])⟩) (hb1.set_same 0 (.int .i64 3)) rfl

set_option maxRecDepth 100000 in
set_option maxHeartbeats 2000000 in
theorem giveLast (w : World) (hf : FieldsAt w) (b m mb : Nat) (σ : MS) (v : Value) (g g' : GiveS) (σ' : MS) (hs : g.step σ = (g', σ')) (hl1 : g.line = 3) (hok : g.Ok) (h : GiveAt w b v g) (hm : MemAt w m mb σ)
    (n1 : b ≠ m) (n2 : b ≠ mb) (n5 : v.ownBlock ≠ some m) (n6 : v.ownBlock ≠ some mb) (n3 : 0 ≠ m) (n4 : 0 ≠ b) :
    Calls Tryd.prog 72 #[.pointer (some ⟨b, 0, none⟩), .pointer (some ⟨m, 0, none⟩)] w (GLeft w b m mb v g' σ') := by
  obtain ⟨line, head, slots, at_⟩ := g
  simp only at hl1
  subst hl1
  have hlen := hok.len
  have hsl := hok.slots
  have hpos := hok.some_ (by simp)
  have h0 := hok.head0
  have H1 := Lib.hid hok.head1
  simp only at hlen hsl hpos h0 H1
  obtain ⟨n, hn⟩ : ∃ n, slots.length = n + 1 := ⟨slots.length - 1, by omega⟩
  have hrow := h.row
  simp only at hrow
  obtain ⟨gb, c, hv, hc, c1⟩ := hrow.cell (j := n) (by omega)
  have hs1 := hsl slots[n] (List.getElem_mem _)
  have es : (⟨3, head, slots, at_⟩ : GiveS).step σ = (⟨4, head, slots, at_⟩, σ.store 9 slots[n] 2 (headW (slotW head) 0)) := by
    simp only [GiveS.step]
    rw [if_neg (by omega), if_neg (by omega), if_pos trivial, List.getD_eq_getElem?_getD, show slots.length - 1 = n by omega, List.getElem?_eq_getElem (by omega)]
    rfl
  obtain ⟨rfl, rfl⟩ := Prod.mk.inj (hs.symm.trans es)
  clear hs es
  subst hv
  have hgm : gb ≠ m := fun e => n5 (by rw [e]; rfl)
  have hgmb : gb ≠ mb := fun e => n6 (by rw [e]; rfl)
  have hgb : gb ≠ b := fun e => h.ne (by rw [e]; rfl)
  have hgl : gb < w.heap.size := hrow.lt rfl
  have hb := h.has
  have hbl := hb.lt
  have hml := hm.lt
  have hmbl := hm.ltb
  have hfl := hf.lt
  have hh := headW_range (slotW head) 0
  have Hh := Lib.hid hh
  have hmay := mayA_slot hs1 (f := 2) (by omega) (by omega)
  have G := Lib.hid h
  generalize slots[n] = s at *
  unfold GiveS.obj at hb
  generalize hL : slots.length = L at *
  have HL := Lib.hid hL
  have c_hb_0 := hb.cell 0; have c_hb_1 := hb.cell 1; have c_hb_2 := hb.cell 2; simp only [getRules] at c_hb_0 c_hb_1 c_hb_2
  have ew : IntKind.i64.wrap ((L : Int) - 1) = n := by
    rw [IntKind.wrap_i64]
    omega
  have e1 : (n : Int) < L := by omega
  have e0 : (0 : Int) ≤ n := by omega
  clear h hrow hok hsl hs1 hh hL hn hpos
  go_enter Tryd.func72, Tryd.ntmps72
  go_wp2_with fail
  refine (asHead_any _ hf head h0 H1.out).mono ?_
  rintro e w2 ⟨rfl, n2', rfl⟩
  generalize slotW head = hd at *
  go_wp2_with fail
  have hMd : Mod w (w.drewN n2') [] := (Mod.refl _ _).drewN n2'
  have hb2 := hb.mod hMd (by simp)
  have hm2 := hm.mod hMd (by simp) (by simp)
  have hf2 := hf.mod hMd (by simp)
  have c2 := cell_mod c1 hMd (by simp)
  clear c_hb_0 c_hb_1 c_hb_2 c1
  generalize w.drewN n2' = W at hMd hb2 hm2 hf2 c2 ⊢
  have c_hb2_0 := hb2.cell 0; have c_hb2_2 := hb2.cell 2; simp only [getRules] at c_hb2_0 c_hb2_2
  have hbl2 := hb2.lt
  have hml2 := hm2.lt
  have hmbl2 := hm2.ltb
  have hfl2 := hf2.lt
  have hgl2 := World.block_lt_of_cell? _ _ c2
  simp only at hgl2
  go_region_held3 (fun W => W.cell? ⟨b, 2, none⟩ = some (.slice (some ⟨gb, 0, none⟩) L c) ∧ W.cell? ⟨gb, n, none⟩ = some (.int .i64 s))
    (first | exact ⟨by assumption, by assumption⟩ | (simp [go_sem, c_hb2_2, c2, hbl2, hgl2]))
    (first | (go_at_call 111; go_must (refine (oword_any _ s 2).mono ?_; rintro e w1 ⟨rfl, rfl⟩)) | (go_at_call 113; go_must (refine (head_any _ (hf2.mod (S := []) (by (repeat (first | with_reducible (first | exact Mod.refl _ _ | apply Mod.drewN | apply Mod.drew | apply Mod.alloc | refine Mod.setCell ?_ ?_ _ | refine Mod.put ?_ ?_ _) | focus (simp; done) | focus (simp; omega)))) (by first | (simp; done) | (simp; omega))) hd 0 (by omega) (by omega)).mono ?_; rintro e w1 ⟨rfl, n3, rfl⟩)) | (go_at_call 11; go_must (refine (store_any _ m mb σ (hm2.mod (S := []) (by (repeat (first | with_reducible (first | exact Mod.refl _ _ | apply Mod.drewN | apply Mod.drew | apply Mod.alloc | refine Mod.setCell ?_ ?_ _ | refine Mod.put ?_ ?_ _) | focus (simp; done) | focus (simp; omega)))) (by simp) (by simp)) 9 s 2 (headW hd 0) Hh.out.1 Hh.out.2 hmay).mono ?_; rintro e w1 ⟨rfl, hm1, h1⟩; have hM : Mod W w1 [m, mb] := (by (repeat (first | with_reducible (first | exact hm1 | exact Mod.refl _ _ | apply Mod.drewN | apply Mod.drew | apply Mod.alloc | refine Mod.setCell ?_ ?_ _ | refine Mod.put ?_ ?_ _ | refine Mod.call ?_ hm1 ?_) | focus (simp; done) | focus (simp; omega)))); have hb4 := hb2.mod hM (by simp; omega); have k1 := cell_mod c2 hM (by simp; omega); clear c2 c_hb2_0 c_hb2_2; have c_hb4_0 := hb4.cell 0; have c_hb4_2 := hb4.cell 2; simp only [getRules] at c_hb4_0 c_hb4_2; have fz4 := hb4.frozen; have hl7 := hb4.lt)))
  go_wp2_with fail
  (first | go_end0 | refine bodyPost_ret (results_none (by kernel_rfl) _ _ _) rfl ?_)
  have hMf : Mod w1 (w1.setCell ⟨b, 0, none⟩ (.int .i64 4)) [b] := (Mod.refl _ _).setCell (.inl (by simp)) _
  have hMall : Mod w (w1.setCell ⟨b, 0, none⟩ (.int .i64 4)) [m, mb, b] := ((hMd.wider (by simp)).call hM (by simp)).call hMf (by simp)
  refine ⟨rfl, hMall, h1.mod hMf (by simp; omega) (by simp; omega), ?_⟩
  exact G.out.back (g' := ⟨4, head, slots, at_⟩) hMall (fun y hy => by cases hy; simp; exact ⟨hgm, hgmb, hgb⟩) (hb4.set_same 0 (.int .i64 4)) rfl

set_option maxRecDepth 100000 in
set_option maxHeartbeats 2000000 in
theorem givePut (w : World) (hf : FieldsAt w) (b m mb : Nat) (σ : MS) (v : Value) (g g' : GiveS) (σ' : MS) (hs : g.step σ = (g', σ')) (hl1 : g.line = 4) (hok : g.Ok) (h : GiveAt w b v g) (hm : MemAt w m mb σ)
    (n1 : b ≠ m) (n2 : b ≠ mb) (n5 : v.ownBlock ≠ some m) (n6 : v.ownBlock ≠ some mb) (n3 : 0 ≠ m) (n4 : 0 ≠ b) :
    Calls Tryd.prog 73 #[.pointer (some ⟨b, 0, none⟩), .pointer (some ⟨m, 0, none⟩)] w (GLeft w b m mb v g' σ') := by
  obtain ⟨line, head, slots, at_⟩ := g
  simp only at hl1
  subst hl1
  have hlen := hok.len
  have hsl := hok.slots
  have hpos := hok.some_ (by simp)
  have h0 := hok.head0
  have H1 := Lib.hid hok.head1
  simp only at hlen hsl hpos h0 H1
  have hrow := h.row
  simp only at hrow
  obtain ⟨gb, c, hv, hc, c1⟩ := hrow.cell (j := 0) (by omega)
  have hs1 := hsl slots[0] (List.getElem_mem _)
  have es : (⟨4, head, slots, at_⟩ : GiveS).step σ = (⟨if (σ.g 4 0 0 == head) = true then 0 else 2, head, slots, at_⟩, σ.cas 4 0 0 head (headW slots[0] (head / 65536 + 1))) := by
    simp only [GiveS.step]
    rw [if_neg (by omega), if_neg (by omega), if_neg (by omega), if_pos trivial, List.getD_eq_getElem?_getD, List.getElem?_eq_getElem (by omega)]
    rfl
  have ES := Lib.hid (hs.symm.trans es)
  clear hs es
  subst hv
  have hgm : gb ≠ m := fun e => n5 (by rw [e]; rfl)
  have hgmb : gb ≠ mb := fun e => n6 (by rw [e]; rfl)
  have hgb : gb ≠ b := fun e => h.ne (by rw [e]; rfl)
  have hgl : gb < w.heap.size := hrow.lt rfl
  have hb := h.has
  have hbl := hb.lt
  have hml := hm.lt
  have hmbl := hm.ltb
  have hfl := hf.lt
  have G := Lib.hid h
  generalize slots[0] = s at *
  unfold GiveS.obj at hb
  have fz := hb.frozen
  have c_hb_0 := hb.cell 0; have c_hb_2 := hb.cell 2; simp only [getRules] at c_hb_0 c_hb_2
  have hL0 : (0 : Int) < slots.length := by omega
  have hL0' : 0 < slots.length := hpos
  clear h hrow hok hsl hpos
  go_enter Tryd.func73, Tryd.ntmps73
  go_wp2_with fail
  have hMs : Mod w (w.setCell ⟨b, 0, none⟩ (.int .i64 2)) [b] := (Mod.refl _ _).setCell (.inl (by simp)) _
  have hb2 := hb.set_same 0 (.int .i64 2)
  simp only [List.setIfInBounds_toArray, List.set_cons_zero] at hb2
  have hm2 := hm.mod hMs (by simp; omega) (by simp; omega)
  have hf2 := hf.mod hMs (by simp; omega)
  have c2 := cell_mod c1 hMs (by simp; omega)
  clear c_hb_0 c_hb_2 c1 fz
  generalize w.setCell ⟨b, 0, none⟩ (.int .i64 2) = W at hMs hb2 hm2 hf2 c2 ⊢
  have c_hb2_0 := hb2.cell 0; have c_hb2_2 := hb2.cell 2; simp only [getRules] at c_hb2_0 c_hb2_2
  have hbl2 := hb2.lt
  have hgl2 := World.block_lt_of_cell? _ _ c2
  simp only at hgl2
  cases hcas : (σ.g 4 0 0 == head)
  all_goals
    have HCAS := Lib.hid hcas
    clear hcas
    go_region_held3 (fun W => W.cell? ⟨b, 2, none⟩ = some (.slice (some ⟨gb, 0, none⟩) slots.length c) ∧ W.cell? ⟨gb, 0, none⟩ = some (.int .i64 s))
      (first | exact ⟨by assumption, by assumption⟩ | (simp [go_sem, alloc_drewN, c_hb2_2, c2, hbl2, hgl2]))
      (first | (go_at_call 108; go_must (refine (oswap_any _ (hf2.mod (S := []) (by (repeat (first | with_reducible (first | exact Mod.refl _ _ | apply Mod.drewN | apply Mod.drew | apply Mod.alloc | refine Mod.setCell ?_ ?_ _ | refine Mod.put ?_ ?_ _) | focus (simp; done) | focus (simp; omega)))) (by first | (simp; done) | (simp; omega))) b m mb σ _ _ head s h0 H1 (hb2.drewN 1) rfl (hm2.mod (S := []) (by (repeat (first | with_reducible (first | exact Mod.refl _ _ | apply Mod.drewN | apply Mod.drew | apply Mod.alloc | refine Mod.setCell ?_ ?_ _ | refine Mod.put ?_ ?_ _) | focus (simp; done) | focus (simp; omega)))) (by simp) (by simp)) n1 n2 n3 (by omega) (by omega)).mono ?_; rintro e w1 ⟨rfl, hM0, h1, hb4⟩; rw [HCAS.out]; have hM : Mod W w1 [m, mb] := (by (repeat (first | with_reducible (first | exact hM0 | exact Mod.refl _ _ | apply Mod.drewN | apply Mod.drew | apply Mod.alloc | refine Mod.setCell ?_ ?_ _ | refine Mod.put ?_ ?_ _ | refine Mod.call ?_ hM0 ?_) | focus (simp; done) | focus (simp; omega)))); have k1 := cell_mod c2 hM (by simp; omega); clear c2 c_hb2_0 c_hb2_2; have c_hb4_0 := hb4.cell 0; have c_hb4_2 := hb4.cell 2; simp only [getRules] at c_hb4_0 c_hb4_2; have fz4 := hb4.frozen; have hl7 := hb4.lt)))
    have es := ES.out
    rw [HCAS.out] at es
    simp only [if_true, if_false, Bool.false_eq_true] at es
    obtain ⟨rfl, rfl⟩ := Prod.mk.inj es
    clear es ES HCAS
    go_wp2_with fail
    (first | go_end0 | refine bodyPost_ret (results_none (by kernel_rfl) _ _ _) rfl ?_)
  · have hMall : Mod w w1 [m, mb, b] := (hMs.wider (by simp)).call hM (by simp)
    exact ⟨rfl, hMall, h1, G.out.back (g' := ⟨2, head, slots, at_⟩) hMall (fun y hy => by cases hy; simp; exact ⟨hgm, hgmb, hgb⟩) hb4 rfl⟩
  · have hMf : Mod w1 (w1.setCell ⟨b, 0, none⟩ (.int .i64 0)) [b] := (Mod.refl _ _).setCell (.inl (by simp)) _
    have hMall : Mod w (w1.setCell ⟨b, 0, none⟩ (.int .i64 0)) [m, mb, b] := ((hMs.wider (by simp)).call hM (by simp)).call hMf (by simp)
    exact ⟨rfl, hMall, h1.mod hMf (by simp; omega) (by simp; omega), G.out.back (g' := ⟨0, head, slots, at_⟩) hMall (fun y hy => by cases hy; simp; exact ⟨hgm, hgmb, hgb⟩) (hb4.set_same 0 (.int .i64 0)) rfl⟩

theorem giveOver_any (w : World) (b : Nat) (v : Value) (g : GiveS) (h : Has w b (g.obj v)) :
    Calls Tryd.prog 33 #[.pointer (some ⟨b, 0, none⟩)] w fun e w' => e = .returned (.bool (g.line == 0)) ∧ w = w' := by
  unfold GiveS.obj at h
  go_enter Tryd.func33, Tryd.ntmps33
  go_wp2_with fail
  refine (oover_any w b g.line _ _ h rfl).mono ?_
  rintro e w1 ⟨rfl, rfl⟩
  go_wp2
  go_ret
  exact ⟨rfl, rfl⟩

@[go_sem] theorem index_give1 (a b c d e : Value) (w : World) : (Instr.index 136 (.agg #[a, b, c, d, e]) (.int .i64 1)).run Tryd.prog w = .ok b w := by kernel_rfl
@[go_sem] theorem index_give2 (a b c d e : Value) (w : World) : (Instr.index 136 (.agg #[a, b, c, d, e]) (.int .i64 2)).run Tryd.prog w = .ok c w := by kernel_rfl
@[go_sem] theorem index_give3 (a b c d e : Value) (w : World) : (Instr.index 136 (.agg #[a, b, c, d, e]) (.int .i64 3)).run Tryd.prog w = .ok d w := by kernel_rfl
@[go_sem] theorem index_give4 (a b c d e : Value) (w : World) : (Instr.index 136 (.agg #[a, b, c, d, e]) (.int .i64 4)).run Tryd.prog w = .ok e w := by kernel_rfl

set_option maxRecDepth 100000 in
set_option maxHeartbeats 2000000 in
theorem giveStep_any (w : World) (hf : FieldsAt w) (b m mb : Nat) (σ : MS) (v : Value) (g : GiveS) (hok : g.Ok) (h : GiveAt w b v g) (hm : MemAt w m mb σ)
    (n1 : b ≠ m) (n2 : b ≠ mb) (n5 : v.ownBlock ≠ some m) (n6 : v.ownBlock ≠ some mb) (n3 : 0 ≠ m) (n4 : 0 ≠ b) :
    Calls Tryd.prog 32 #[.pointer (some ⟨b, 0, none⟩), .pointer (some ⟨m, 0, none⟩)] w fun e w' =>
      e = .returned (.bool ((g.step σ).1.line == 0)) ∧ Mod w w' [m, mb, b] ∧ MemAt w' m mb (g.step σ).2 ∧ GiveAt w' b v (g.step σ).1 := by
  obtain ⟨g', σ', hs⟩ : ∃ g' σ', g.step σ = (g', σ') := ⟨_, _, rfl⟩
  rw [hs]
  have c0 := h.has.cell 0
  unfold GiveS.obj at c0
  simp only [getRules] at c0
  rcases hok.line with h0 | ⟨h0, _⟩ | h0 | h0 | h0
  · have es : g.step σ = (g, σ) := by simp [GiveS.step, h0]
    rw [es] at hs
    obtain ⟨rfl, rfl⟩ := Prod.mk.inj hs
    have hzb : (g.line == 0) = true := by simp [h0]
    clear hs es
    go_enter Tryd.func32, Tryd.ntmps32
    go_wp2_with fail
    refine (giveOver_any w b v g h.has).mono ?_
    rintro e w1 ⟨rfl, rfl⟩
    rw [hzb]
    go_wp2_with fail
    refine (giveOver_any w b v g h.has).mono ?_
    rintro e w1 ⟨rfl, rfl⟩
    go_wp2_with fail
    go_ret
    exact ⟨by rw [hzb]; rfl, Mod.refl _ _, hm, h⟩
  · have hL := giveLink w hf b m mb σ v g g' σ' hs h0 hok h hm n1 n2 n5 n6 n3 n4
    have HL := Lib.hid hL
    have hzb : (g.line == 0) = false := by simp [h0]
    rw [h0] at c0
    clear hL hs
    go_enter Tryd.func32, Tryd.ntmps32
    go_wp2_with fail
    refine (giveOver_any w b v g h.has).mono ?_
    rintro e w1 ⟨rfl, rfl⟩
    rw [hzb]
    go_wp2_with fail
    refine HL.out.mono ?_
    rintro e w2 ⟨rfl, hM, hm2, h2⟩
    go_wp2_with fail
    refine (giveOver_any w2 b _ g' h2.has).mono ?_
    rintro e w1 ⟨rfl, rfl⟩
    go_wp2_with fail
    go_ret
    exact ⟨rfl, hM, hm2, h2⟩
  · have hL := giveFirst w hf b m mb σ v g g' σ' hs h0 h hm n1 n2 n5 n6 n3 n4
    have HL := Lib.hid hL
    have hzb : (g.line == 0) = false := by simp [h0]
    rw [h0] at c0
    clear hL hs
    go_enter Tryd.func32, Tryd.ntmps32
    go_wp2_with fail
    refine (giveOver_any w b v g h.has).mono ?_
    rintro e w1 ⟨rfl, rfl⟩
    rw [hzb]
    go_wp2_with fail
    refine HL.out.mono ?_
    rintro e w2 ⟨rfl, hM, hm2, h2⟩
    go_wp2_with fail
    refine (giveOver_any w2 b _ g' h2.has).mono ?_
    rintro e w1 ⟨rfl, rfl⟩
    go_wp2_with fail
    go_ret
    exact ⟨rfl, hM, hm2, h2⟩
  · have hL := giveLast w hf b m mb σ v g g' σ' hs h0 hok h hm n1 n2 n5 n6 n3 n4
    have HL := Lib.hid hL
    have hzb : (g.line == 0) = false := by simp [h0]
    rw [h0] at c0
    clear hL hs
    go_enter Tryd.func32, Tryd.ntmps32
    go_wp2_with fail
    refine (giveOver_any w b v g h.has).mono ?_
    rintro e w1 ⟨rfl, rfl⟩
    rw [hzb]
    go_wp2_with fail
    refine HL.out.mono ?_
    rintro e w2 ⟨rfl, hM, hm2, h2⟩
    go_wp2_with fail
    refine (giveOver_any w2 b _ g' h2.has).mono ?_
    rintro e w1 ⟨rfl, rfl⟩
    go_wp2_with fail
    go_ret
    exact ⟨rfl, hM, hm2, h2⟩
  · have hL := givePut w hf b m mb σ v g g' σ' hs h0 hok h hm n1 n2 n5 n6 n3 n4
    have HL := Lib.hid hL
    have hzb : (g.line == 0) = false := by simp [h0]
    rw [h0] at c0
    clear hL hs
    go_enter Tryd.func32, Tryd.ntmps32
    go_wp2_with fail
    refine (giveOver_any w b v g h.has).mono ?_
    rintro e w1 ⟨rfl, rfl⟩
    rw [hzb]
    go_wp2_with fail
    refine HL.out.mono ?_
    rintro e w2 ⟨rfl, hM, hm2, h2⟩
    go_wp2_with fail
    refine (giveOver_any w2 b _ g' h2.has).mono ?_
    rintro e w1 ⟨rfl, rfl⟩
    go_wp2_with fail
    go_ret
    exact ⟨rfl, hM, hm2, h2⟩

end Go.Proofs.YtghkdkdlbkmicaaDoor
