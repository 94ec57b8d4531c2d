/- The list of free slots: what a step of a Pop, of a Push, does to its operation and to the memory. -/
import Derived.Test.YtlecajmnmhpjkaaDoorWords
namespace Go.Proofs.YtlecajmnmhpjkaaDoor
open Go.RowKit

theorem list_any (w : World) : Calls Tryd.prog 82 #[] w fun e w' => e = .returned (K 0 0 0) ∧ w.alloc (.cells #[.int .u8 0, .int .i64 0, .int .i64 0] 44) = w' := by
  go_enter Tryd.func82, Tryd.ntmps82
  go_wp2
  refine bodyPost_ret (v := K 0 0 0) ?_ rfl ⟨rfl, rfl⟩
  simp [results, Tryd.results82, go_sem, K]

theorem link_any (w : World) (s : Int) : Calls Tryd.prog 70 #[.int .i64 s] w fun e w' => e = .returned (K 9 s 2) ∧ w.alloc (.cells #[.int .u8 9, .int .i64 s, .int .i64 2] 44) = w' := by
  go_enter Tryd.func70, Tryd.ntmps70
  go_wp2
  refine bodyPost_ret (v := K 9 s 2) ?_ rfl ⟨rfl, rfl⟩
  simp [results, Tryd.results70, go_sem, K]

set_option maxHeartbeats 1000000 in
theorem cload_any (w : World) (hf : FieldsAt w) (b m mb : Nat) (σ : MS) (cs : Array Value) (T : TypeId) (l h : Value) (hb : Has w b (.cells cs T)) (_c0 : cs[0]? = some l) (c1 : cs[1]? = some h) (hm : MemAt w m mb σ) (n1 : b ≠ m) (n2 : b ≠ mb) (n3 : 0 ≠ m) (n4 : 0 ≠ b) :
    Calls Tryd.prog 69 #[.pointer (some ⟨b, 0, none⟩), .pointer (some ⟨m, 0, none⟩)] w fun e w' =>
      e = .returned (.int .i64 (slotW (σ.g 0 0 0))) ∧ Mod w w' [m, b] ∧ MemAt w' m mb (σ.load 0 0 0) ∧ Has w' b (.cells (cs.setIfInBounds 1 (.int .u64 (σ.g 0 0 0))) T) := by
  have hl := hb.lt
  have hl1 := hm.lt
  have hl2 := hm.ltb
  have hr := hm.range 0 0 0
  have hfl := hf.lt
  go_enter Tryd.func69, Tryd.ntmps69
  go_wp2_with (first | (go_at_call 82; go_must (refine (list_any _).mono ?_; rintro e w1 ⟨rfl, rfl⟩)) | (go_at_call 15; go_must (refine (load_any _ m mb σ (hm.mod (S := []) (by (repeat (first | with_reducible (first | exact Mod.refl _ _ | apply Mod.drewN | apply Mod.drew | apply Mod.alloc | refine Mod.setCell ?_ ?_ _ | refine Mod.put ?_ ?_ _) | focus (simp; done) | focus (simp; omega)))) (by simp) (by simp)) 0 0 0).mono ?_; rintro e w1 ⟨rfl, hm1, h1⟩; replace hb := (hb.alloc _).mod hm1 (by first | (simp; done) | (simp; omega)); have d1 := hb.cell 1; rw [c1] at d1; have fz := hb.frozen; replace hf := (hf.mod ((Mod.refl _ []).alloc _) (by simp)).mod hm1 (by first | (simp; done) | (simp; omega)))) | (go_at_call 26; go_must (refine (asHead_any _ (hf.mod (S := [b]) (by (repeat (first | with_reducible (first | exact Mod.refl _ _ | apply Mod.drewN | apply Mod.drew | apply Mod.alloc | refine Mod.setCell ?_ ?_ _ | refine Mod.put ?_ ?_ _) | focus (simp; done) | focus (simp; omega)))) (by first | (simp; done) | (simp; omega))) _ hr.1 hr.2).mono ?_; rintro e w2 ⟨rfl, n, rfl⟩)))
  go_ret
  refine ⟨rfl, ?_, h1.mod (S := [b]) ?_ ?_ ?_, ?_⟩
  · (repeat (first | with_reducible (first | exact hm1 | exact Mod.refl _ _ | apply Mod.drewN | apply Mod.drew | apply Mod.alloc | refine Mod.setCell ?_ ?_ _ | refine Mod.put ?_ ?_ _ | refine Mod.call ?_ hm1 ?_) | focus (simp; done) | focus (simp; omega)))
  · (repeat (first | with_reducible (first | exact Mod.refl _ _ | apply Mod.drewN | apply Mod.drew | apply Mod.alloc | refine Mod.setCell ?_ ?_ _ | refine Mod.put ?_ ?_ _) | focus (simp; done) | focus (simp; omega)))
  · simp; omega
  · simp; omega
  · exact (hb.set_same 1 _).drewN n

set_option maxRecDepth 100000 in
set_option maxHeartbeats 400000 in
theorem cswap_any (w : World) (hf : FieldsAt w) (b m mb : Nat) (σ : MS) (cs : Array Value) (T : TypeId) (l : Value) (hd s : Int) (hd0 : 0 ≤ hd) (hd1 : hd < 18446744073709551616) (hb : Has w b (.cells cs T)) (c0 : cs[0]? = some l) (c1 : cs[1]? = some (.int .u64 hd)) (hm : MemAt w m mb σ) (n1 : b ≠ m) (n2 : b ≠ mb) (n3 : 0 ≠ m) (n4 : 0 ≠ b) (_s0 : -1 ≤ s) (_s1 : s < 65536) :
    Calls Tryd.prog 72 #[.pointer (some ⟨b, 0, none⟩), .pointer (some ⟨m, 0, none⟩), .int .i64 s] w fun e w' =>
      e = .returned (.bool (σ.g 0 0 0 == hd)) ∧ Mod w w' [m, mb, b] ∧ MemAt w' m mb (σ.cas 0 0 0 hd (headW s (hd / 65536 + 1))) ∧ Has w' b (.cells (cs.setIfInBounds 0 (.int .i64 (if (σ.g 0 0 0 == hd) = true then 0 else 1))) T) := by
  have hl := hb.lt
  have hl1 := hm.lt
  have hl2 := hm.ltb
  have hfl := hf.lt
  have hh := headW_range s (hd / 65536 + 1)
  have d0 := hb.cell 0
  have d1 := hb.cell 1
  rw [c0] at d0
  rw [c1] at d1
  have fz := hb.frozen
  have t0 : 0 ≤ hd / 65536 := by omega
  have t1 : hd / 65536 < 281474976710656 := by omega
  have ew : IntKind.u64.wrap (hd / 65536 + 1) = hd / 65536 + 1 := by
    rw [wrap_u64_eq]
    omega
  have Hh := Lib.hid hh
  have H1 := Lib.hid hd1
  clear hh hd1
  cases hc : (σ.g 0 0 0 == hd)
  all_goals
    have Hc := Lib.hid hc
    clear hc
    go_enter Tryd.func72, Tryd.ntmps72
    go_wp2_with (first | (go_at_call 26; go_must (refine (asHead_any _ hf hd hd0 H1.out).mono ?_; rintro e w2 ⟨rfl, n, rfl⟩)))
    go_region_held3 (fun W => W.cell? ⟨b, 1, none⟩ = some (.int .u64 hd)) (first | assumption | (simp [go_sem, alloc_drewN, d1, hl]))
      (first | (go_at_call 82; go_must (refine (list_any _).mono ?_; rintro e w1 ⟨rfl, rfl⟩)) | (go_at_call 71; go_must (refine (head_any _ (hf.mod (S := []) (by (repeat (first | with_reducible (first | exact Mod.refl _ _ | apply Mod.drewN | apply Mod.drew | apply Mod.alloc | refine Mod.setCell ?_ ?_ _ | refine Mod.put ?_ ?_ _) | focus (simp; done) | focus (simp; omega)))) (by first | (simp; done) | (simp; omega))) s (hd / 65536 + 1) (by omega) (by omega)).mono ?_; rintro e w1 ⟨rfl, n3, rfl⟩)) | (go_at_call 78; go_must (refine (cas_any _ m mb σ (hm.mod (S := []) (by (repeat (first | with_reducible (first | exact Mod.refl _ _ | apply Mod.drewN | apply Mod.drew | apply Mod.alloc | refine Mod.setCell ?_ ?_ _ | refine Mod.put ?_ ?_ _) | focus (simp; done) | focus (simp; omega)))) (by simp) (by simp)) 0 0 0 hd (headW s (hd / 65536 + 1)) Hh.out.1 Hh.out.2 (by decide)).mono ?_; rintro e w1 ⟨rfl, hm1, h1⟩; rw [Hc.out]; have hM : Mod w w1 [m, mb] := (by (repeat (first | with_reducible (first | exact hm1 | exact Mod.refl _ _ | apply Mod.drewN | apply Mod.drew | apply Mod.alloc | refine Mod.setCell ?_ ?_ _ | refine Mod.put ?_ ?_ _ | refine Mod.call ?_ hm1 ?_) | focus (simp; done) | focus (simp; omega)))); replace hb := hb.mod hM (by first | (simp; done) | (simp; omega)); clear d0 d1 fz; have d0 := hb.cell 0; have d1 := hb.cell 1; rw [c0] at d0; rw [c1] at d1; have fz := hb.frozen)))
    go_wp2
    go_ret
    refine ⟨rfl, ?_, h1.mod (S := [b]) ?_ ?_ ?_, ?_⟩
    · (repeat (first | with_reducible (first | exact hM | exact Mod.refl _ _ | apply Mod.drewN | apply Mod.drew | apply Mod.alloc | refine Mod.setCell ?_ ?_ _ | refine Mod.put ?_ ?_ _ | refine Mod.call ?_ hM ?_) | focus (simp; done) | focus (simp; omega)))
    · (repeat (first | with_reducible (first | exact Mod.refl _ _ | apply Mod.drewN | apply Mod.drew | apply Mod.alloc | refine Mod.setCell ?_ ?_ _ | refine Mod.put ?_ ?_ _) | focus (simp; done) | focus (simp; omega)))
    · simp; omega
    · simp; omega
    · simpa using hb.set_same 0 _

structure PopS where
  line : Int
  head : Int
  next : Int
  slot : Int
  ok : Bool
structure PushS where
  line : Int
  head : Int
  slot : Int
def PopS.obj (p : PopS) : Obj := .cells #[.int .i64 p.line, .int .u64 p.head, .int .i64 p.next, .int .i64 p.slot, .bool p.ok] 93
def PushS.obj (p : PushS) : Obj := .cells #[.int .i64 p.line, .int .u64 p.head, .int .i64 p.slot] 88

def PopS.new : PopS := ⟨1, 0, 0, 0, false⟩
def PushS.new (s : Int) : PushS := ⟨1, 0, s⟩
/-- A step of a Pop: it, and the memory. -/
def PopS.step (p : PopS) (σ : MS) : PopS × MS :=
  if p.line = 1 then ({ p with head := σ.g 0 0 0, line := if slotW (σ.g 0 0 0) < 0 then 0 else 2 }, σ.load 0 0 0)
  else if p.line = 2 then ({ p with next := slotW (σ.g 9 (slotW p.head) 2), line := 3 }, σ.load 9 (slotW p.head) 2)
  else if p.line = 3 then
    (if (σ.g 0 0 0 == p.head) = true then { p with line := 0, slot := slotW p.head, ok := true } else { p with line := 1 },
      σ.cas 0 0 0 p.head (headW p.next (p.head / 65536 + 1)))
  else (p, σ)
def PushS.step (p : PushS) (σ : MS) : PushS × MS :=
  if p.line = 1 then ({ p with head := σ.g 0 0 0, line := 2 }, σ.load 0 0 0)
  else if p.line = 2 then ({ p with line := 3 }, σ.store 9 p.slot 2 (headW (slotW p.head) 0))
  else if p.line = 3 then ({ p with line := if (σ.g 0 0 0 == p.head) = true then 0 else 1 }, σ.cas 0 0 0 p.head (headW p.slot (p.head / 65536 + 1)))
  else (p, σ)

theorem newPop_any (w : World) : Calls Tryd.prog 22 #[] w fun e w' => e = .returned (.pointer (some ⟨w.heap.size, 0, none⟩)) ∧ w.alloc PopS.new.obj = w' := by
  go_enter Tryd.func22, Tryd.ntmps22
  go_wp2
  go_ret
  exact ⟨rfl, rfl⟩

theorem newPush_any (w : World) (s : Int) (h : mayS s = true) : Calls Tryd.prog 20 #[.int .i64 s] w fun e w' => e = .returned (.pointer (some ⟨w.heap.size, 0, none⟩)) ∧ w.alloc (PushS.new s).obj = w' := by
  simp [mayS] at h
  obtain ⟨h0, h1⟩ := h
  go_enter Tryd.func20, Tryd.ntmps20
  go_wp2
  go_ret
  exact ⟨rfl, rfl⟩

theorem popGot_any (w : World) (b : Nat) (p : PopS) (h : Has w b p.obj) :
    Calls Tryd.prog 24 #[.pointer (some ⟨b, 0, none⟩)] w fun e w' => e = .returned (.tuple #[.int .i64 p.slot, .bool p.ok]) ∧ ∃ n, w.drewN n = w' := by
  unfold PopS.obj at h
  have c_h_2 := h.cell 2; have c_h_3 := h.cell 3; have c_h_4 := h.cell 4; simp only [getRules] at c_h_2 c_h_3 c_h_4
  go_enter Tryd.func24, Tryd.ntmps24
  go_wp2
  go_quiet (fail)
  go_wp2
  go_ret2
  exact ⟨rfl, _, rfl⟩

theorem popOver_any (w : World) (b : Nat) (l : Int) (cs : Array Value) (T : TypeId) (h : Has w b (.cells cs T)) (c0 : cs[0]? = some (.int .i64 l)) :
    Calls Tryd.prog 42 #[.pointer (some ⟨b, 0, none⟩)] w fun e w' => e = .returned (.bool (l == 0)) ∧ w = w' := by
  have d0 := h.cell 0
  rw [c0] at d0
  go_enter Tryd.func42, Tryd.ntmps42
  go_wp2
  go_ret
  exact ⟨rfl, rfl⟩

theorem pushOver_any (w : World) (b : Nat) (l : Int) (cs : Array Value) (T : TypeId) (h : Has w b (.cells cs T)) (c0 : cs[0]? = some (.int .i64 l)) :
    Calls Tryd.prog 38 #[.pointer (some ⟨b, 0, none⟩)] w fun e w' => e = .returned (.bool (l == 0)) ∧ w = w' := by
  have d0 := h.cell 0
  rw [c0] at d0
  go_enter Tryd.func38, Tryd.ntmps38
  go_wp2
  go_ret
  exact ⟨rfl, rfl⟩

/-- What a Pop's, or a Push's, line leaves. -/
def Left (w : World) (b m mb : Nat) (o : Obj) (σ : MS) (e : Ending) (w' : World) : Prop :=
  e = .returned (.tuple #[]) ∧ Mod w w' [m, mb, b] ∧ MemAt w' m mb σ ∧ Has w' b o

set_option maxHeartbeats 1000000 in
theorem popFirst (w : World) (hf : FieldsAt w) (b m mb : Nat) (σ : MS) (p : PopS) (hb : Has w b p.obj) (hm : MemAt w m mb σ) (n1 : b ≠ m) (n2 : b ≠ mb) (n3 : 0 ≠ m) (n4 : 0 ≠ b) :
    Calls Tryd.prog 43 #[.pointer (some ⟨b, 0, none⟩), .pointer (some ⟨m, 0, none⟩)] w
      (Left w b m mb ({ p with head := σ.g 0 0 0, line := if slotW (σ.g 0 0 0) < 0 then 0 else 2 } : PopS).obj (σ.load 0 0 0)) := by
  unfold PopS.obj at hb ⊢
  by_cases hs : slotW (σ.g 0 0 0) < 0
  all_goals
    go_enter Tryd.func43, Tryd.ntmps43
    go_wp2_with (first | (go_at_call 69; go_must (refine (cload_any w hf b m mb σ _ _ _ _ hb rfl rfl hm n1 n2 n3 n4).mono ?_; rintro e w1 ⟨rfl, hM, h1, hb1⟩; simp only [List.setIfInBounds_toArray, List.set_cons_succ, List.set_cons_zero] at hb1; have c_hb1_0 := hb1.cell 0; simp only [getRules] at c_hb1_0; have fz := hb1.frozen)))
    go_end0
    refine ⟨rfl, ?_, h1.mod (S := [b]) ?_ ?_ ?_, ?_⟩
    · (repeat (first | with_reducible (first | exact hM | exact Mod.refl _ _ | apply Mod.drewN | apply Mod.drew | apply Mod.alloc | refine Mod.setCell ?_ ?_ _ | refine Mod.put ?_ ?_ _ | refine Mod.call ?_ hM ?_) | focus (simp; done) | focus (simp; omega)))
    · (repeat (first | with_reducible (first | exact Mod.refl _ _ | apply Mod.drewN | apply Mod.drew | apply Mod.alloc | refine Mod.setCell ?_ ?_ _ | refine Mod.put ?_ ?_ _) | focus (simp; done) | focus (simp; omega)))
    · simp; omega
    · simp; omega
    · simpa [hs] using hb1.set_same 0 _

set_option maxHeartbeats 1000000 in
theorem popSecond (w : World) (hf : FieldsAt w) (b m mb : Nat) (σ : MS) (p : PopS) (p0 : 0 ≤ p.head) (p1 : Hid (p.head < 18446744073709551616)) (hb : Has w b p.obj) (hm : MemAt w m mb σ) (n1 : b ≠ m) (n2 : b ≠ mb) (n3 : 0 ≠ m) (n4 : 0 ≠ b) :
    Calls Tryd.prog 44 #[.pointer (some ⟨b, 0, none⟩), .pointer (some ⟨m, 0, none⟩)] w
      (Left w b m mb ({ p with next := slotW (σ.g 9 (slotW p.head) 2), line := 3 } : PopS).obj (σ.load 9 (slotW p.head) 2)) := by
  unfold PopS.obj at hb ⊢
  have c_hb_0 := hb.cell 0; have c_hb_1 := hb.cell 1; have c_hb_2 := hb.cell 2; simp only [getRules] at c_hb_0 c_hb_1 c_hb_2
  have hl := hb.lt
  have hl1 := hm.lt
  have hl2 := hm.ltb
  have hfl := hf.lt
  have hr := Lib.hid (hm.range 9 (slotW p.head) 2)
  go_enter Tryd.func44, Tryd.ntmps44
  go_wp2_with fail
  refine (asHead_any _ hf p.head p0 p1.out).mono ?_
  rintro e w2 ⟨rfl, n, rfl⟩
  go_wp2_with (first | (go_at_call 70; go_must (refine (link_any _ _).mono ?_; rintro e w1 ⟨rfl, rfl⟩)) | (go_at_call 15; go_must (refine (load_any _ m mb σ (hm.mod (S := []) (by (repeat (first | with_reducible (first | exact Mod.refl _ _ | apply Mod.drewN | apply Mod.drew | apply Mod.alloc | refine Mod.setCell ?_ ?_ _ | refine Mod.put ?_ ?_ _) | focus (simp; done) | focus (simp; omega)))) (by simp) (by simp)) 9 (slotW p.head) 2).mono ?_; rintro e w1 ⟨rfl, hm1, h1⟩; have hM : Mod w w1 [m] := (by (repeat (first | with_reducible (first | exact hm1 | exact Mod.refl _ _ | apply Mod.drewN | apply Mod.drew | apply Mod.alloc | refine Mod.setCell ?_ ?_ _ | refine Mod.put ?_ ?_ _ | refine Mod.call ?_ hm1 ?_) | focus (simp; done) | focus (simp; omega)))); replace hb := hb.mod hM (by first | (simp; done) | (simp; omega)); replace hf := hf.mod hM (by first | (simp; done) | (simp; omega)); clear c_hb_0 c_hb_1 c_hb_2; have c_hb_0 := hb.cell 0; have c_hb_1 := hb.cell 1; have c_hb_2 := hb.cell 2; simp only [getRules] at c_hb_0 c_hb_1 c_hb_2; have fz := hb.frozen)) | (go_at_call 26; go_must (refine (asHead_any _ hf _ hr.out.1 hr.out.2).mono ?_; rintro e w2 ⟨rfl, n2, rfl⟩)))
  go_end0
  refine ⟨rfl, ?_, h1.mod (S := [b]) ?_ ?_ ?_, ?_⟩
  · (repeat (first | with_reducible (first | exact hM | exact Mod.refl _ _ | apply Mod.drewN | apply Mod.drew | apply Mod.alloc | refine Mod.setCell ?_ ?_ _ | refine Mod.put ?_ ?_ _ | refine Mod.call ?_ hM ?_) | focus (simp; done) | focus (simp; omega)))
  · (repeat (first | with_reducible (first | exact Mod.refl _ _ | apply Mod.drewN | apply Mod.drew | apply Mod.alloc | refine Mod.setCell ?_ ?_ _ | refine Mod.put ?_ ?_ _) | focus (simp; done) | focus (simp; omega)))
  · simp; omega
  · simp; omega
  · unfold Has at hb
    focus (simp (disch := first | omega | (simp; done) | (simp; omega)) only [Has, heapRules, hb]; first | done | with_reducible rfl)

set_option maxRecDepth 100000 in
set_option maxHeartbeats 1000000 in
theorem popThird (w : World) (hf : FieldsAt w) (b m mb : Nat) (σ : MS) (p : PopS) (p0 : 0 ≤ p.head) (p1 : Hid (p.head < 18446744073709551616)) (p2 : -1 ≤ p.next) (p3 : p.next < 65536) (hb : Has w b p.obj) (hm : MemAt w m mb σ) (n1 : b ≠ m) (n2 : b ≠ mb) (n3 : 0 ≠ m) (n4 : 0 ≠ b) (n5 : 0 ≠ mb) :
    Calls Tryd.prog 45 #[.pointer (some ⟨b, 0, none⟩), .pointer (some ⟨m, 0, none⟩)] w
      (Left w b m mb (if (σ.g 0 0 0 == p.head) = true then ({ p with line := 0, slot := slotW p.head, ok := true } : PopS) else { p with line := 1 }).obj (σ.cas 0 0 0 p.head (headW p.next (p.head / 65536 + 1)))) := by
  unfold PopS.obj at hb
  have c_hb_0 := hb.cell 0; have c_hb_1 := hb.cell 1; have c_hb_2 := hb.cell 2; have c_hb_3 := hb.cell 3; have c_hb_4 := hb.cell 4; simp only [getRules] at c_hb_0 c_hb_1 c_hb_2 c_hb_3 c_hb_4
  have hl := hb.lt
  have hl1 := hm.lt
  have hl2 := hm.ltb
  have hfl := hf.lt
  cases hc : (σ.g 0 0 0 == p.head)
  all_goals
    have Hc := Lib.hid hc
    clear hc
    go_enter Tryd.func45, Tryd.ntmps45
    go_wp2
    go_region_held3 (fun W => W.cell? ⟨b, 2, none⟩ = some (.int .i64 p.next)) (first | assumption | (simp [go_sem, alloc_drewN, c_hb_2, hl]))
      (first | (go_at_call 72; go_must (refine (cswap_any _ (hf.mod (S := []) (by (repeat (first | with_reducible (first | exact Mod.refl _ _ | apply Mod.drewN | apply Mod.drew | apply Mod.alloc | refine Mod.setCell ?_ ?_ _ | refine Mod.put ?_ ?_ _) | focus (simp; done) | focus (simp; omega)))) (by first | (simp; done) | (simp; omega))) b m mb σ _ _ _ p.head p.next p0 p1.out (hb.drewN 1) rfl rfl (hm.mod (S := []) (by (repeat (first | with_reducible (first | exact Mod.refl _ _ | apply Mod.drewN | apply Mod.drew | apply Mod.alloc | refine Mod.setCell ?_ ?_ _ | refine Mod.put ?_ ?_ _) | focus (simp; done) | focus (simp; omega)))) (by simp) (by simp)) n1 n2 n3 n4 p2 p3).mono ?_; rintro e w1 ⟨rfl, hM0, h1, hb1⟩; rw [Hc.out]; rw [Hc.out] at hb1; simp only [List.setIfInBounds_toArray, List.set_cons_zero, if_true, if_false, Bool.false_eq_true] at hb1; have hM : Mod w w1 [m, mb, b] := (by (repeat (first | with_reducible (first | exact hM0 | exact Mod.refl _ _ | apply Mod.drewN | apply Mod.drew | apply Mod.alloc | refine Mod.setCell ?_ ?_ _ | refine Mod.put ?_ ?_ _ | refine Mod.call ?_ hM0 ?_) | focus (simp; done) | focus (simp; omega)))); replace hf := hf.mod hM (by first | (simp; done) | (simp; omega)); clear c_hb_0 c_hb_1 c_hb_2 c_hb_3 c_hb_4; have c_hb1_0 := hb1.cell 0; have c_hb1_1 := hb1.cell 1; have c_hb1_2 := hb1.cell 2; have c_hb1_3 := hb1.cell 3; have c_hb1_4 := hb1.cell 4; simp only [getRules] at c_hb1_0 c_hb1_1 c_hb1_2 c_hb1_3 c_hb1_4; have fz := hb1.frozen)))
    go_wp2_with (first | (go_at_call 26; go_must (refine (asHead_any _ hf p.head p0 p1.out).mono ?_; rintro e w2 ⟨rfl, n2, rfl⟩)))
    go_end0
    refine ⟨rfl, ?_, h1.mod (S := [b]) ?_ ?_ ?_, ?_⟩
    · (repeat (first | with_reducible (first | exact hM | exact Mod.refl _ _ | apply Mod.drewN | apply Mod.drew | apply Mod.alloc | refine Mod.setCell ?_ ?_ _ | refine Mod.put ?_ ?_ _ | refine Mod.call ?_ hM ?_) | focus (simp; done) | focus (simp; omega)))
    · (repeat (first | with_reducible (first | exact Mod.refl _ _ | apply Mod.drewN | apply Mod.drew | apply Mod.alloc | refine Mod.setCell ?_ ?_ _ | refine Mod.put ?_ ?_ _) | focus (simp; done) | focus (simp; omega)))
    · simp; try omega
    · simp; try omega
    · simp only [PopS.obj]
      unfold Has at hb1
      focus (simp (disch := first | omega | (simp; done) | (simp; omega)) only [Has, heapRules, hb1]; first | done | with_reducible rfl)

@[go_sem] theorem index_pop1 (a b c d : Value) (w : World) : (Instr.index 95 (.agg #[a, b, c, d]) (.int .i64 1)).run Tryd.prog w = .ok b w := by kernel_rfl
@[go_sem] theorem index_pop2 (a b c d : Value) (w : World) : (Instr.index 95 (.agg #[a, b, c, d]) (.int .i64 2)).run Tryd.prog w = .ok c w := by kernel_rfl
@[go_sem] theorem index_pop3 (a b c d : Value) (w : World) : (Instr.index 95 (.agg #[a, b, c, d]) (.int .i64 3)).run Tryd.prog w = .ok d w := by kernel_rfl
@[go_sem] theorem index_push1 (a b c d : Value) (w : World) : (Instr.index 91 (.agg #[a, b, c, d]) (.int .i64 1)).run Tryd.prog w = .ok b w := by kernel_rfl
@[go_sem] theorem index_push2 (a b c d : Value) (w : World) : (Instr.index 91 (.agg #[a, b, c, d]) (.int .i64 2)).run Tryd.prog w = .ok c w := by kernel_rfl
@[go_sem] theorem index_push3 (a b c d : Value) (w : World) : (Instr.index 91 (.agg #[a, b, c, d]) (.int .i64 3)).run Tryd.prog w = .ok d w := by kernel_rfl

/-- What a step leaves. -/
def Stepped (w : World) (b m mb : Nat) (line : Int) (o : Obj) (σ : MS) (e : Ending) (w' : World) : Prop :=
  e = .returned (.bool (line == 0)) ∧ Mod w w' [m, mb, b] ∧ MemAt w' m mb σ ∧ Has w' b o

structure PopS.Ok (p : PopS) : Prop where
  line : p.line = 0 ∨ p.line = 1 ∨ p.line = 2 ∨ p.line = 3
  head0 : 0 ≤ p.head
  head1 : p.head < 18446744073709551616
  next0 : -1 ≤ p.next
  next1 : p.next < 65536

set_option maxRecDepth 100000 in
set_option maxHeartbeats 1000000 in
theorem popStep_any (w : World) (hf : FieldsAt w) (b m mb : Nat) (σ : MS) (p : PopS) (hp : p.Ok) (hb : Has w b p.obj) (hm : MemAt w m mb σ) (n1 : b ≠ m) (n2 : b ≠ mb) (n3 : 0 ≠ m) (n4 : 0 ≠ b) (n5 : 0 ≠ mb) :
    Calls Tryd.prog 23 #[.pointer (some ⟨b, 0, none⟩), .pointer (some ⟨m, 0, none⟩)] w
      (Stepped w b m mb (p.step σ).1.line (p.step σ).1.obj (p.step σ).2) := by
  obtain ⟨hl, h0, h1, h2, h3⟩ := hp
  have H1 := Lib.hid h1
  clear h1
  obtain ⟨line, head, next, slot, ok⟩ := p
  simp only at hl h0 H1 h2 h3
  rcases hl with rfl | rfl | rfl | rfl
  · go_enter Tryd.func23, Tryd.ntmps23
    go_wp2_with (first | (go_at_call 42; go_must (refine (popOver_any _ b 0 _ _ hb rfl).mono ?_; rintro e w1 ⟨rfl, rfl⟩)))
    go_ret
    exact ⟨by simp [PopS.step], Mod.refl _ _, by simpa [PopS.step] using hm, by simpa [PopS.step] using hb⟩
  · have c0 := hb.cell 0
    unfold PopS.obj at c0
    simp only [List.getElem?_toArray, List.getElem?_cons_zero] at c0
    have hL : Calls Tryd.prog 43 #[.pointer (some ⟨b, 0, none⟩), .pointer (some ⟨m, 0, none⟩)] w (Left w b m mb ((⟨1, head, next, slot, ok⟩ : PopS).step σ).1.obj ((⟨1, head, next, slot, ok⟩ : PopS).step σ).2) := popFirst w hf b m mb σ _ hb hm n1 n2 n3 n4
    generalize PopS.step _ σ = q at hL ⊢
    have HL := Lib.hid hL
    clear hL
    go_enter Tryd.func23, Tryd.ntmps23
    go_wp2_with (first | (go_at_call 42; go_must (first | (refine (popOver_any _ b _ _ _ hb1 rfl).mono ?_; rintro e w9 ⟨rfl, rfl⟩) | (refine (popOver_any _ b 1 _ _ hb rfl).mono ?_; rintro e w9 ⟨rfl, rfl⟩))) | (go_at_call 43; go_must (refine HL.out.mono ?_; rintro e w1 ⟨rfl, hM, h1, hb1⟩)))
    go_ret
    exact ⟨rfl, hM, h1, hb1⟩
  · have c0 := hb.cell 0
    unfold PopS.obj at c0
    simp only [List.getElem?_toArray, List.getElem?_cons_zero] at c0
    have hL : Calls Tryd.prog 44 #[.pointer (some ⟨b, 0, none⟩), .pointer (some ⟨m, 0, none⟩)] w (Left w b m mb ((⟨2, head, next, slot, ok⟩ : PopS).step σ).1.obj ((⟨2, head, next, slot, ok⟩ : PopS).step σ).2) := popSecond w hf b m mb σ _ h0 H1 hb hm n1 n2 n3 n4
    generalize PopS.step _ σ = q at hL ⊢
    have HL := Lib.hid hL
    clear hL
    go_enter Tryd.func23, Tryd.ntmps23
    go_wp2_with (first | (go_at_call 42; go_must (first | (refine (popOver_any _ b _ _ _ hb1 rfl).mono ?_; rintro e w9 ⟨rfl, rfl⟩) | (refine (popOver_any _ b 2 _ _ hb rfl).mono ?_; rintro e w9 ⟨rfl, rfl⟩))) | (go_at_call 44; go_must (refine HL.out.mono ?_; rintro e w1 ⟨rfl, hM, h1, hb1⟩)))
    go_ret
    exact ⟨rfl, hM, h1, hb1⟩
  · have c0 := hb.cell 0
    unfold PopS.obj at c0
    simp only [List.getElem?_toArray, List.getElem?_cons_zero] at c0
    have hL : Calls Tryd.prog 45 #[.pointer (some ⟨b, 0, none⟩), .pointer (some ⟨m, 0, none⟩)] w (Left w b m mb ((⟨3, head, next, slot, ok⟩ : PopS).step σ).1.obj ((⟨3, head, next, slot, ok⟩ : PopS).step σ).2) := popThird w hf b m mb σ _ h0 H1 h2 h3 hb hm n1 n2 n3 n4 n5
    generalize PopS.step _ σ = q at hL ⊢
    have HL := Lib.hid hL
    clear hL
    go_enter Tryd.func23, Tryd.ntmps23
    go_wp2_with (first | (go_at_call 42; go_must (first | (refine (popOver_any _ b _ _ _ hb1 rfl).mono ?_; rintro e w9 ⟨rfl, rfl⟩) | (refine (popOver_any _ b 3 _ _ hb rfl).mono ?_; rintro e w9 ⟨rfl, rfl⟩))) | (go_at_call 45; go_must (refine HL.out.mono ?_; rintro e w1 ⟨rfl, hM, h1, hb1⟩)))
    go_ret
    exact ⟨rfl, hM, h1, hb1⟩

set_option maxHeartbeats 1000000 in
theorem pushFirst (w : World) (hf : FieldsAt w) (b m mb : Nat) (σ : MS) (p : PushS) (hb : Has w b p.obj) (hm : MemAt w m mb σ) (n1 : b ≠ m) (n2 : b ≠ mb) (n3 : 0 ≠ m) (n4 : 0 ≠ b) :
    Calls Tryd.prog 39 #[.pointer (some ⟨b, 0, none⟩), .pointer (some ⟨m, 0, none⟩)] w
      (Left w b m mb ({ p with head := σ.g 0 0 0, line := 2 } : PushS).obj (σ.load 0 0 0)) := by
  unfold PushS.obj at hb ⊢
  go_enter Tryd.func39, Tryd.ntmps39
  go_wp2_with (first | (go_at_call 69; go_must (refine (cload_any w hf b m mb σ _ _ _ _ hb rfl rfl hm n1 n2 n3 n4).mono ?_; rintro e w1 ⟨rfl, hM, h1, hb1⟩; simp only [List.setIfInBounds_toArray, List.set_cons_succ, List.set_cons_zero] at hb1; have c_hb1_0 := hb1.cell 0; simp only [getRules] at c_hb1_0; have fz := hb1.frozen)))
  go_end0
  refine ⟨rfl, ?_, h1.mod (S := [b]) ?_ ?_ ?_, ?_⟩
  · (repeat (first | with_reducible (first | exact hM | exact Mod.refl _ _ | apply Mod.drewN | apply Mod.drew | apply Mod.alloc | refine Mod.setCell ?_ ?_ _ | refine Mod.put ?_ ?_ _ | refine Mod.call ?_ hM ?_) | focus (simp; done) | focus (simp; omega)))
  · (repeat (first | with_reducible (first | exact Mod.refl _ _ | apply Mod.drewN | apply Mod.drew | apply Mod.alloc | refine Mod.setCell ?_ ?_ _ | refine Mod.put ?_ ?_ _) | focus (simp; done) | focus (simp; omega)))
  · simp; omega
  · simp; omega
  · simpa using hb1.set_same 0 _

set_option maxRecDepth 100000 in
set_option maxHeartbeats 1000000 in
theorem pushSecond (w : World) (hf : FieldsAt w) (b m mb : Nat) (σ : MS) (p : PushS) (p0 : 0 ≤ p.head) (p1 : Hid (p.head < 18446744073709551616)) (p2 : mayS p.slot = true) (hb : Has w b p.obj) (hm : MemAt w m mb σ) (n1 : b ≠ m) (n2 : b ≠ mb) (n3 : 0 ≠ m) (n4 : 0 ≠ b) :
    Calls Tryd.prog 40 #[.pointer (some ⟨b, 0, none⟩), .pointer (some ⟨m, 0, none⟩)] w
      (Left w b m mb ({ p with line := 3 } : PushS).obj (σ.store 9 p.slot 2 (headW (slotW p.head) 0))) := by
  have hmay : mayA 9 p.slot 2 = true := by
    simp [mayS] at p2
    simp [mayA, roomAt, roomF]
    exact p2
  have Hh := Lib.hid (headW_range (slotW p.head) 0)
  clear p2
  unfold PushS.obj at hb ⊢
  have c_hb_0 := hb.cell 0; have c_hb_1 := hb.cell 1; have c_hb_2 := hb.cell 2; simp only [getRules] at c_hb_0 c_hb_1 c_hb_2
  have hl := hb.lt
  have hl1 := hm.lt
  have hl2 := hm.ltb
  have hfl := hf.lt
  go_enter Tryd.func40, Tryd.ntmps40
  go_wp2_with fail
  refine (asHead_any _ hf p.head p0 p1.out).mono ?_
  rintro e w2 ⟨rfl, n, rfl⟩
  go_wp2_with (first | (go_at_call 70; go_must (refine (link_any _ _).mono ?_; rintro e w1 ⟨rfl, rfl⟩)) | (go_at_call 71; go_must (refine (head_any _ (hf.mod (S := []) (by (repeat (first | with_reducible (first | exact Mod.refl _ _ | apply Mod.drewN | apply Mod.drew | apply Mod.alloc | refine Mod.setCell ?_ ?_ _ | refine Mod.put ?_ ?_ _) | focus (simp; done) | focus (simp; omega)))) (by first | (simp; done) | (simp; omega))) (slotW p.head) 0 (by omega) (by omega)).mono ?_; rintro e w1 ⟨rfl, n3, rfl⟩)) | (go_at_call 12; go_must (refine (store_any _ m mb σ (hm.mod (S := []) (by (repeat (first | with_reducible (first | exact Mod.refl _ _ | apply Mod.drewN | apply Mod.drew | apply Mod.alloc | refine Mod.setCell ?_ ?_ _ | refine Mod.put ?_ ?_ _) | focus (simp; done) | focus (simp; omega)))) (by simp) (by simp)) 9 p.slot 2 (headW (slotW p.head) 0) Hh.out.1 Hh.out.2 hmay).mono ?_; rintro e w1 ⟨rfl, hm1, h1⟩; have hM : Mod w w1 [m, mb] := (by (repeat (first | with_reducible (first | exact hm1 | exact Mod.refl _ _ | apply Mod.drewN | apply Mod.drew | apply Mod.alloc | refine Mod.setCell ?_ ?_ _ | refine Mod.put ?_ ?_ _ | refine Mod.call ?_ hm1 ?_) | focus (simp; done) | focus (simp; omega)))); replace hb := hb.mod hM (by first | (simp; done) | (simp; omega)); clear c_hb_0 c_hb_1 c_hb_2; have c_hb_0 := hb.cell 0; have c_hb_1 := hb.cell 1; have c_hb_2 := hb.cell 2; simp only [getRules] at c_hb_0 c_hb_1 c_hb_2; have fz := hb.frozen)))
  go_end0
  refine ⟨rfl, ?_, h1.mod (S := [b]) ?_ ?_ ?_, ?_⟩
  · (repeat (first | with_reducible (first | exact hM | exact Mod.refl _ _ | apply Mod.drewN | apply Mod.drew | apply Mod.alloc | refine Mod.setCell ?_ ?_ _ | refine Mod.put ?_ ?_ _ | refine Mod.call ?_ hM ?_) | focus (simp; done) | focus (simp; omega)))
  · (repeat (first | with_reducible (first | exact Mod.refl _ _ | apply Mod.drewN | apply Mod.drew | apply Mod.alloc | refine Mod.setCell ?_ ?_ _ | refine Mod.put ?_ ?_ _) | focus (simp; done) | focus (simp; omega)))
  · simp; omega
  · simp; omega
  · unfold Has at hb
    focus (simp (disch := first | omega | (simp; done) | (simp; omega)) only [Has, heapRules, hb]; first | done | with_reducible rfl)

set_option maxRecDepth 100000 in
set_option maxHeartbeats 1000000 in
theorem pushThird (w : World) (hf : FieldsAt w) (b m mb : Nat) (σ : MS) (p : PushS) (p0 : 0 ≤ p.head) (p1 : Hid (p.head < 18446744073709551616)) (p2 : -1 ≤ p.slot) (p3 : p.slot < 65536) (hb : Has w b p.obj) (hm : MemAt w m mb σ) (n1 : b ≠ m) (n2 : b ≠ mb) (n3 : 0 ≠ m) (n4 : 0 ≠ b) :
    Calls Tryd.prog 41 #[.pointer (some ⟨b, 0, none⟩), .pointer (some ⟨m, 0, none⟩)] w
      (Left w b m mb ({ p with line := if (σ.g 0 0 0 == p.head) = true then 0 else 1 } : PushS).obj (σ.cas 0 0 0 p.head (headW p.slot (p.head / 65536 + 1)))) := by
  unfold PushS.obj at hb ⊢
  have c_hb_0 := hb.cell 0; have c_hb_1 := hb.cell 1; have c_hb_2 := hb.cell 2; simp only [getRules] at c_hb_0 c_hb_1 c_hb_2
  have hl := hb.lt
  have hl1 := hm.lt
  have hl2 := hm.ltb
  have hfl := hf.lt
  generalize hq : (if (σ.g 0 0 0 == p.head) = true then (0 : Int) else 1) = q
  have HQ := Lib.hid hq
  clear hq
  go_enter Tryd.func41, Tryd.ntmps41
  go_wp2
  go_region_held3 (fun W => W.cell? ⟨b, 2, none⟩ = some (.int .i64 p.slot)) (first | assumption | (simp [go_sem, alloc_drewN, c_hb_2, hl]))
    (first | (go_at_call 72; go_must (refine (cswap_any _ (hf.mod (S := []) (by (repeat (first | with_reducible (first | exact Mod.refl _ _ | apply Mod.drewN | apply Mod.drew | apply Mod.alloc | refine Mod.setCell ?_ ?_ _ | refine Mod.put ?_ ?_ _) | focus (simp; done) | focus (simp; omega)))) (by first | (simp; done) | (simp; omega))) b m mb σ _ _ _ p.head p.slot p0 p1.out (hb.drewN 1) rfl rfl (hm.mod (S := []) (by (repeat (first | with_reducible (first | exact Mod.refl _ _ | apply Mod.drewN | apply Mod.drew | apply Mod.alloc | refine Mod.setCell ?_ ?_ _ | refine Mod.put ?_ ?_ _) | focus (simp; done) | focus (simp; omega)))) (by simp) (by simp)) n1 n2 n3 n4 p2 p3).mono ?_; rintro e w1 ⟨rfl, hM0, h1, hb1⟩; simp only [List.setIfInBounds_toArray, List.set_cons_zero] at hb1; rw [HQ.out] at hb1; have hM : Mod w w1 [m, mb, b] := (by (repeat (first | with_reducible (first | exact hM0 | exact Mod.refl _ _ | apply Mod.drewN | apply Mod.drew | apply Mod.alloc | refine Mod.setCell ?_ ?_ _ | refine Mod.put ?_ ?_ _ | refine Mod.call ?_ hM0 ?_) | focus (simp; done) | focus (simp; omega)))); clear c_hb_0 c_hb_1 c_hb_2; have c_hb1_2 := hb1.cell 2; simp only [getRules] at c_hb1_2)))
  go_wp2
  go_end0
  exact ⟨rfl, hM, h1, hb1⟩

structure PushS.Ok (p : PushS) : Prop where
  line : p.line = 0 ∨ p.line = 1 ∨ p.line = 2 ∨ p.line = 3
  head0 : 0 ≤ p.head
  head1 : p.head < 18446744073709551616
  slot : mayS p.slot = true

set_option maxRecDepth 100000 in
set_option maxHeartbeats 1000000 in
theorem pushStep_any (w : World) (hf : FieldsAt w) (b m mb : Nat) (σ : MS) (p : PushS) (hp : p.Ok) (hb : Has w b p.obj) (hm : MemAt w m mb σ) (n1 : b ≠ m) (n2 : b ≠ mb) (n3 : 0 ≠ m) (n4 : 0 ≠ b) :
    Calls Tryd.prog 21 #[.pointer (some ⟨b, 0, none⟩), .pointer (some ⟨m, 0, none⟩)] w
      (Stepped w b m mb (p.step σ).1.line (p.step σ).1.obj (p.step σ).2) := by
  obtain ⟨hl, h0, h1, h2⟩ := hp
  have H1 := Lib.hid h1
  have H2 := Lib.hid h2
  have h3 := h2
  simp [mayS] at h3
  obtain ⟨h3, h4⟩ := h3
  replace h3 : -1 ≤ p.slot := by omega
  replace h4 : p.slot < 65536 := by omega
  clear h1 h2
  obtain ⟨line, head, slot⟩ := p
  simp only at hl h0 H1 H2 h3 h4
  rcases hl with rfl | rfl | rfl | rfl
  · go_enter Tryd.func21, Tryd.ntmps21
    go_wp2_with (first | (go_at_call 38; go_must (refine (pushOver_any _ b 0 _ _ hb rfl).mono ?_; rintro e w1 ⟨rfl, rfl⟩)))
    go_ret
    exact ⟨by simp [PushS.step], Mod.refl _ _, by simpa [PushS.step] using hm, by simpa [PushS.step] using hb⟩
  · have c0 := hb.cell 0
    unfold PushS.obj at c0
    simp only [List.getElem?_toArray, List.getElem?_cons_zero] at c0
    have hL : Calls Tryd.prog 39 #[.pointer (some ⟨b, 0, none⟩), .pointer (some ⟨m, 0, none⟩)] w (Left w b m mb ((⟨1, head, slot⟩ : PushS).step σ).1.obj ((⟨1, head, slot⟩ : PushS).step σ).2) := pushFirst w hf b m mb σ _ hb hm n1 n2 n3 n4
    generalize PushS.step _ σ = q at hL ⊢
    have HL := Lib.hid hL
    clear hL
    go_enter Tryd.func21, Tryd.ntmps21
    go_wp2_with (first | (go_at_call 38; go_must (first | (refine (pushOver_any _ b _ _ _ hb1 rfl).mono ?_; rintro e w9 ⟨rfl, rfl⟩) | (refine (pushOver_any _ b 1 _ _ hb rfl).mono ?_; rintro e w9 ⟨rfl, rfl⟩))) | (go_at_call 39; go_must (refine HL.out.mono ?_; rintro e w1 ⟨rfl, hM, h1, hb1⟩)))
    go_ret
    exact ⟨rfl, hM, h1, hb1⟩
  · have c0 := hb.cell 0
    unfold PushS.obj at c0
    simp only [List.getElem?_toArray, List.getElem?_cons_zero] at c0
    have hL : Calls Tryd.prog 40 #[.pointer (some ⟨b, 0, none⟩), .pointer (some ⟨m, 0, none⟩)] w (Left w b m mb ((⟨2, head, slot⟩ : PushS).step σ).1.obj ((⟨2, head, slot⟩ : PushS).step σ).2) := pushSecond w hf b m mb σ _ h0 H1 H2.out hb hm n1 n2 n3 n4
    generalize PushS.step _ σ = q at hL ⊢
    have HL := Lib.hid hL
    clear hL
    go_enter Tryd.func21, Tryd.ntmps21
    go_wp2_with (first | (go_at_call 38; go_must (first | (refine (pushOver_any _ b _ _ _ hb1 rfl).mono ?_; rintro e w9 ⟨rfl, rfl⟩) | (refine (pushOver_any _ b 2 _ _ hb rfl).mono ?_; rintro e w9 ⟨rfl, rfl⟩))) | (go_at_call 40; go_must (refine HL.out.mono ?_; rintro e w1 ⟨rfl, hM, h1, hb1⟩)))
    go_ret
    exact ⟨rfl, hM, h1, hb1⟩
  · have c0 := hb.cell 0
    unfold PushS.obj at c0
    simp only [List.getElem?_toArray, List.getElem?_cons_zero] at c0
    have hL : Calls Tryd.prog 41 #[.pointer (some ⟨b, 0, none⟩), .pointer (some ⟨m, 0, none⟩)] w (Left w b m mb ((⟨3, head, slot⟩ : PushS).step σ).1.obj ((⟨3, head, slot⟩ : PushS).step σ).2) := pushThird w hf b m mb σ _ h0 H1 h3 h4 hb hm n1 n2 n3 n4
    generalize PushS.step _ σ = q at hL ⊢
    have HL := Lib.hid hL
    clear hL
    go_enter Tryd.func21, Tryd.ntmps21
    go_wp2_with (first | (go_at_call 38; go_must (first | (refine (pushOver_any _ b _ _ _ hb1 rfl).mono ?_; rintro e w9 ⟨rfl, rfl⟩) | (refine (pushOver_any _ b 3 _ _ hb rfl).mono ?_; rintro e w9 ⟨rfl, rfl⟩))) | (go_at_call 41; go_must (refine HL.out.mono ?_; rintro e w1 ⟨rfl, hM, h1, hb1⟩)))
    go_ret
    exact ⟨rfl, hM, h1, hb1⟩

end Go.Proofs.YtlecajmnmhpjkaaDoor
