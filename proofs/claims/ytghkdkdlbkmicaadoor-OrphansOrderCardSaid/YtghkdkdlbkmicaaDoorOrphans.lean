/- What threads retired that are gone: what the parts of a Give, of a Take, do. -/
import Derived.Test.YtghkdkdlbkmicaaDoorHeads
import Derived.Test.YtghkdkdlbkmicaaDoorRows3
namespace Go.Proofs.YtghkdkdlbkmicaaDoor
open Go.RowKit

theorem stack_any (w : World) : Calls Tryd.prog 140 #[] w fun e w' => e = .returned (K 4 0 0) ∧ w.alloc (.cells #[.int .u8 4, .int .i64 0, .int .i64 0] 31) = w' := by
  go_enter Tryd.func140, Tryd.ntmps140
  go_wp2
  refine bodyPost_ret (v := K 4 0 0) ?_ rfl ⟨rfl, rfl⟩
  simp [results, Tryd.results140, go_sem, K]

theorem oword_any (w : World) (s f : Int) : Calls Tryd.prog 111 #[.int .i64 s, .int .i64 f] w fun e w' => e = .returned (K 9 s f) ∧ w.alloc (.cells #[.int .u8 9, .int .i64 s, .int .i64 f] 31) = w' := by
  go_enter Tryd.func111, Tryd.ntmps111
  go_wp2
  refine bodyPost_ret (v := K 9 s f) ?_ rfl ⟨rfl, rfl⟩
  simp [results, Tryd.results111, go_sem, K]

theorem oover_any (w : World) (b : Nat) (l : Int) (cs : Array Value) (T : TypeId) (h : Has w b (.cells cs T)) (c0 : cs[0]? = some (.int .i64 l)) :
    Calls Tryd.prog 59 #[.pointer (some ⟨b, 0, none⟩)] w fun e w' => e = .returned (.bool (l == 0)) ∧ w = w' := by
  have d0 := h.cell 0
  rw [c0] at d0
  go_enter Tryd.func59, Tryd.ntmps59
  go_wp2
  go_ret
  exact ⟨rfl, rfl⟩

set_option maxHeartbeats 1000000 in
theorem oload_any (w : World) (hf : FieldsAt w) (b m mb : Nat) (σ : MS) (cs : Array Value) (T : TypeId) (h : Value) (hb : Has w b (.cells cs T)) (c1 : cs[1]? = some h) (hm : MemAt w m mb σ) (n1 : b ≠ m) (n2 : b ≠ mb) (n3 : 0 ≠ m) (n4 : 0 ≠ b) :
    Calls Tryd.prog 107 #[.pointer (some ⟨b, 0, none⟩), .pointer (some ⟨m, 0, none⟩)] w fun e w' =>
      e = .returned (.int .i64 (slotW (σ.g 4 0 0))) ∧ Mod w w' [m, b] ∧ MemAt w' m mb (σ.load 4 0 0) ∧ Has w' b (.cells (cs.setIfInBounds 1 (.int .u64 (σ.g 4 0 0))) T) := by
  have hl := hb.lt
  have hl1 := hm.lt
  have hl2 := hm.ltb
  have hr := hm.range 4 0 0
  have r0 := hr.1
  have R1 := Lib.hid hr.2
  clear hr
  have hfl := hf.lt
  go_enter Tryd.func107, Tryd.ntmps107
  go_wp2_with fail
  refine (stack_any w).mono ?_
  rintro e w1 ⟨rfl, hw1⟩
  have hM1 : Mod w w1 [] := by
    rw [← hw1]
    exact (Mod.refl _ _).alloc _
  clear hw1
  have h1 := hb.mod hM1 (by simp)
  have hm1 := hm.mod hM1 (by simp) (by simp)
  go_wp2_with fail
  refine (load_any w1 m mb σ hm1 4 0 0).mono ?_
  rintro e w2 ⟨rfl, hM2, hm2⟩
  have h2 := h1.mod hM2 (by simp; omega)
  have hf2 := (hf.mod hM1 (by simp)).mod hM2 (by simp; omega)
  have d1 := h2.cell 1
  rw [c1] at d1
  have fz := h2.frozen
  have hl3 := h2.lt
  generalize hg : σ.g 4 0 0 = x at *
  have HG := Lib.hid hg
  clear hg
  go_wp2_with fail
  have hMs : Mod w2 (w2.setCell ⟨b, 1, none⟩ (.int .u64 x)) [b] := (Mod.refl _ _).setCell (.inl (by simp)) _
  refine (asHead_any _ (hf2.mod hMs (by simp; omega)) x r0 R1.out).mono ?_
  rintro e w3 ⟨rfl, n, rfl⟩
  go_wp2_with fail
  go_ret
  rw [HG.out]
  refine ⟨rfl, ?_, (hm2.mod hMs (by simp; omega) (by simp; omega)).mod (S := []) ((Mod.refl _ _).drewN n) (by simp) (by simp), (h2.set_same 1 _).drewN n⟩
  exact (((hM1.wider (by simp)).call hM2 (by simp)).call hMs (by simp)).drewN n

set_option maxRecDepth 100000 in
set_option maxHeartbeats 1000000 in
theorem oswap_any (w : World) (hf : FieldsAt w) (b m mb : Nat) (σ : MS) (cs : Array Value) (T : TypeId) (hd s : Int) (hd0 : 0 ≤ hd) (hd1 : Hid (hd < 18446744073709551616)) (hb : Has w b (.cells cs T)) (c1 : cs[1]? = some (.int .u64 hd)) (hm : MemAt w m mb σ) (n1 : b ≠ m) (n2 : b ≠ mb) (n3 : 0 ≠ m) (_s0 : -1 ≤ s) (_s1 : s < 65536) :
    Calls Tryd.prog 108 #[.pointer (some ⟨b, 0, none⟩), .pointer (some ⟨m, 0, none⟩), .int .i64 s] w fun e w' =>
      e = .returned (.bool (σ.g 4 0 0 == hd)) ∧ Mod w w' [m, mb] ∧ MemAt w' m mb (σ.cas 4 0 0 hd (headW s (hd / 65536 + 1))) ∧ Has w' b (.cells cs T) := by
  have hl := hb.lt
  have hl1 := hm.lt
  have hl2 := hm.ltb
  have hfl := hf.lt
  have hh := headW_range s (hd / 65536 + 1)
  have d1 := hb.cell 1
  rw [c1] at d1
  have t0 : 0 ≤ hd / 65536 := by omega
  have t1 : hd / 65536 < 281474976710656 := by have := hd1.out; omega
  have ew : IntKind.u64.wrap (hd / 65536 + 1) = hd / 65536 + 1 := by
    rw [wrap_u64_eq]
    omega
  have Hh := Lib.hid hh
  clear hh
  go_enter Tryd.func108, Tryd.ntmps108
  go_wp2_with (first | (go_at_call 109; go_must (refine (asHead_any _ hf hd hd0 hd1.out).mono ?_; rintro e w2 ⟨rfl, n, rfl⟩)))
  go_region_held3 (fun W => W.cell? ⟨b, 1, none⟩ = some (.int .u64 hd)) (first | assumption | (simp [go_sem, alloc_drewN, d1, hl]))
    (first | (go_at_call 140; go_must (refine (stack_any _).mono ?_; rintro e w1 ⟨rfl, rfl⟩)) | (go_at_call 113; go_must (refine (head_any _ (hf.mod (S := []) (by (repeat (first | with_reducible (first | exact Mod.refl _ _ | apply Mod.drewN | apply Mod.drew | apply Mod.alloc | refine Mod.setCell ?_ ?_ _ | refine Mod.put ?_ ?_ _) | focus (simp; done) | focus (simp; omega)))) (by first | (simp; done) | (simp; omega))) s (hd / 65536 + 1) (by omega) (by omega)).mono ?_; rintro e w1 ⟨rfl, n3, rfl⟩)) | (go_at_call 136; go_must (refine (cas_any _ m mb σ (hm.mod (S := []) (by (repeat (first | with_reducible (first | exact Mod.refl _ _ | apply Mod.drewN | apply Mod.drew | apply Mod.alloc | refine Mod.setCell ?_ ?_ _ | refine Mod.put ?_ ?_ _) | focus (simp; done) | focus (simp; omega)))) (by simp) (by simp)) 4 0 0 hd (headW s (hd / 65536 + 1)) Hh.out.1 Hh.out.2 (by decide)).mono ?_; rintro e w1 ⟨rfl, hm1, h1⟩; have hM : Mod w w1 [m, mb] := (by (repeat (first | with_reducible (first | exact hm1 | exact Mod.refl _ _ | apply Mod.drewN | apply Mod.drew | apply Mod.alloc | refine Mod.setCell ?_ ?_ _ | refine Mod.put ?_ ?_ _ | refine Mod.call ?_ hm1 ?_) | focus (simp; done) | focus (simp; omega)))); have hb4 := hb.mod hM (by simp; omega); have d4 := hb4.cell 1; rw [c1] at d4)))
  all_goals
    go_wp2
    go_ret
    exact ⟨rfl, hM, h1, hb4⟩

/-- An entry. -/
structure Ent6 where
  slot : Int
  gen : Int
  mark : Bool
  birth : Int
  epoch : Int
  era : Int
def Ent6.cells (e : Ent6) : List Value := [.int .i64 e.slot, .int .u32 e.gen, .bool e.mark, .int .u64 e.birth, .int .u64 e.epoch, .int .u64 e.era]
def Ent6.val (e : Ent6) : Value := .agg #[.int .i64 e.slot, .int .u32 e.gen, .bool e.mark, .int .u64 e.birth, .int .u64 e.epoch, .int .u64 e.era]
/-- The cells of entries one behind the other. -/
def flat (l : List Ent6) : List Value := l.flatMap Ent6.cells
theorem flat_len (l : List Ent6) : (flat l).length = l.length * 6 := by
  unfold flat
  induction l with
  | nil => rfl
  | cons e l ih =>
    rw [List.flatMap_cons, List.length_append, ih]
    simp [Ent6.cells]
    omega
theorem flat_one (l : List Ent6) : ∀ u ∈ flat l, u.oneCell' = true := by
  intro u hu
  unfold flat at hu
  obtain ⟨e, _, hu⟩ := List.mem_flatMap.1 hu
  simp only [Ent6.cells, List.mem_cons, List.not_mem_nil, or_false] at hu
  rcases hu with rfl | rfl | rfl | rfl | rfl | rfl <;> rfl
theorem flat_append (l l' : List Ent6) : flat (l ++ l') = flat l ++ flat l' := by simp [flat]
theorem flat_at (l : List Ent6) (i k : Nat) (hi : i < l.length) (hk : k < 6) : (flat l)[i * 6 + k]? = (l[i]).cells[k]? := by
  induction l generalizing i with
  | nil => simp at hi
  | cons e l ih =>
    have hc : e.cells.length = 6 := rfl
    cases i with
    | zero =>
      show (e.cells ++ flat l)[0 * 6 + k]? = e.cells[k]?
      rw [List.getElem?_append_left (by omega)]
      congr 1
      omega
    | succ i =>
      show (e.cells ++ flat l)[(i + 1) * 6 + k]? = (l[i]'(by simpa using hi)).cells[k]?
      rw [List.getElem?_append_right (by omega), ← ih i (by simpa using hi)]
      congr 1
      omega
def EntRow (w : World) (v : Value) (l : List Ent6) : Prop := Row w 50 6 v l.length (flat l)
def EntSrc (w : World) (v : Value) (l : List Ent6) : Prop := Src w 6 v l.length (flat l)
def IntRow (w : World) (v : Value) (l : List Int) : Prop := Row w 3 1 v l.length (l.map (Value.int .i64))
theorem IntRow.cell {w : World} {v : Value} {l : List Int} (h : IntRow w v l) {j : Nat} (hj : j < l.length) : ∃ g c, v = .slice (some ⟨g, 0, none⟩) l.length c ∧ l.length ≤ c ∧ w.cell? ⟨g, j, none⟩ = some (.int .i64 l[j]) := by
  have hu : (l.map (Value.int .i64))[j]? = some (.int .i64 l[j]) := by simp [hj]
  rcases h.1.2 with ⟨rfl, h0⟩ | ⟨g, cap, cur, rfl, _, hh, h3, h4, h5, h6⟩
  · omega
  · have := h.1.cells (g := g) rfl j _ hu
    rw [Addr.add_lit, Nat.zero_add] at this
    exact ⟨g, cap, rfl, h3, this⟩

end Go.Proofs.YtghkdkdlbkmicaaDoor
