/- Eras: enter, exit, raise, bump: what each step does to its operation and to the memory. -/
import Derived.Test.YtlecajmnmhpjkaaOps
import Derived.Deep.RegionHeld3
namespace Go.Proofs.Ytlecajmnmhpjkaa
open Go.RowKit

theorem era_any (w : World) : Calls Try.prog 29 #[] w fun e w' => e = .returned (K 2 0 0) ∧ w.alloc (.cells #[.int .u8 2, .int .i64 0, .int .i64 0] 34) = w' := by
  go_enter Try.func29, Try.ntmps29
  go_wp2
  refine bodyPost_ret (v := K 2 0 0) ?_ rfl ⟨rfl, rfl⟩
  simp [results, Try.results29, go_sem, K]

theorem efield_any (w : World) (a f : Int) : Calls Try.prog 30 #[.int .i64 a, .int .i64 f] w fun e w' => e = .returned (K 8 a f) ∧ w.alloc (.cells #[.int .u8 8, .int .i64 a, .int .i64 f] 34) = w' := by
  go_enter Try.func30, Try.ntmps30
  go_wp2
  refine bodyPost_ret (v := K 8 a f) ?_ rfl ⟨rfl, rfl⟩
  simp [results, Try.results30, go_sem, K]

/-- A bump's object. -/
def bumpO (left era : Int) (moved : Bool) : Obj := .cells #[.int .i64 left, .int .u64 era, .bool moved] 83

theorem newBump_any (w : World) : Calls Try.prog 17 #[] w fun e w' => e = .returned (.pointer (some ⟨w.heap.size, 0, none⟩)) ∧ w.alloc (bumpO 2 0 false) = w' := by
  go_enter Try.func17, Try.ntmps17
  go_wp2
  go_ret
  exact ⟨rfl, rfl⟩

theorem bumpOver_any (w : World) (b : Nat) (left era : Int) (moved : Bool) (h : Has w b (bumpO left era moved)) :
    Calls Try.prog 19 #[.pointer (some ⟨b, 0, none⟩)] w fun e w' => e = .returned (.bool (left == 0)) ∧ w = w' := by
  unfold bumpO at h
  have c_h_0 := h.cell 0; simp only [getRules] at c_h_0
  go_enter Try.func19, Try.ntmps19
  go_wp2
  go_ret
  exact ⟨rfl, rfl⟩

theorem bumpGot_any (w : World) (b : Nat) (left era : Int) (moved : Bool) (h : Has w b (bumpO left era moved)) :
    Calls Try.prog 20 #[.pointer (some ⟨b, 0, none⟩)] w fun e w' => e = .returned (.bool moved) ∧ w = w' := by
  unfold bumpO at h
  have c_h_2 := h.cell 2; simp only [getRules] at c_h_2
  go_enter Try.func20, Try.ntmps20
  go_wp2
  go_ret
  exact ⟨rfl, rfl⟩

theorem bumpStep_over (w : World) (b : Nat) (pm : Value) (era : Int) (moved : Bool) (h : Has w b (bumpO 0 era moved)) :
    Calls Try.prog 18 #[.pointer (some ⟨b, 0, none⟩), pm] w fun e w' => e = .returned (.bool true) ∧ w = w' := by
  go_enter Try.func18, Try.ntmps18
  go_wp2_with (go_at_call 19; go_must (refine (bumpOver_any _ b 0 era moved h).mono ?_; rintro e w1 ⟨rfl, rfl⟩))
  go_ret
  exact ⟨rfl, rfl⟩

theorem bumpStep_first (w : World) (b m mb : Nat) (σ : MS) (era : Int) (moved : Bool) (h : Has w b (bumpO 2 era moved)) (hm : MemAt w m mb σ) (n1 : b ≠ m) (n2 : b ≠ mb) :
    Calls Try.prog 18 #[.pointer (some ⟨b, 0, none⟩), .pointer (some ⟨m, 0, none⟩)] w fun e w' =>
      e = .returned (.bool false) ∧ Mod w w' [m, b] ∧ MemAt w' m mb (σ.load 2 0 0) ∧ Has w' b (bumpO 1 (σ.g 2 0 0) moved) := by
  unfold bumpO at h ⊢
  have c_h_0 := h.cell 0; simp only [getRules] at c_h_0
  have hl := h.lt
  have hl1 := hm.lt
  have hl2 := hm.ltb
  go_enter Try.func18, Try.ntmps18
  go_wp2_with (first | (go_at_call 19; go_in) | (go_at_call 29; go_must (refine (era_any _).mono ?_; rintro e w1 ⟨rfl, rfl⟩)) | (go_at_call 21; go_must (refine (load_any _ m mb σ (hm.mod ((Mod.refl _ []).alloc _) (by simp) (by simp)) 2 0 0).mono ?_; rintro e w1 ⟨rfl, hm1, h1⟩; replace h := (h.alloc _).mod hm1 (by simp; omega); clear c_h_0; have c_h_0 := h.cell 0; have c_h_1 := h.cell 1; simp only [getRules] at c_h_0 c_h_1; have fz := h.frozen)))
  go_ret
  refine ⟨rfl, ?_, h1.mod (S := [b]) ?_ ?_ ?_, ?_⟩
  · (repeat (first | with_reducible (first | exact hm1 | exact Mod.refl _ _ | apply Mod.drewN | apply Mod.drew | apply Mod.alloc | refine Mod.setCell ?_ ?_ _ | refine Mod.put ?_ ?_ _ | refine Mod.call ?_ hm1 ?_) | focus (simp; done) | focus (simp; omega)))
  · (repeat (first | with_reducible (first | exact Mod.refl _ _ | apply Mod.drewN | apply Mod.drew | apply Mod.alloc | refine Mod.setCell ?_ ?_ _ | refine Mod.put ?_ ?_ _) | focus (simp; done) | focus (simp; omega)))
  · simp; omega
  · simp; omega
  · unfold Has at h
    focus (simp (disch := first | omega | (simp; done) | (simp; omega)) only [Has, heapRules, h]; first | done | with_reducible rfl)

set_option maxHeartbeats 1000000 in
theorem bumpStep_second (w : World) (b m mb : Nat) (σ : MS) (era : Int) (moved : Bool) (h : Has w b (bumpO 1 era moved)) (hm : MemAt w m mb σ) (n1 : b ≠ m) (n2 : b ≠ mb) :
    Calls Try.prog 18 #[.pointer (some ⟨b, 0, none⟩), .pointer (some ⟨m, 0, none⟩)] w fun e w' =>
      e = .returned (.bool true) ∧ Mod w w' [m, mb, b] ∧ MemAt w' m mb (σ.cas 2 0 0 era (IntKind.u64.wrap (era + 1))) ∧ Has w' b (bumpO 0 era (σ.g 2 0 0 == era)) := by
  unfold bumpO at h ⊢
  have c_h_0 := h.cell 0; have c_h_1 := h.cell 1; simp only [getRules] at c_h_0 c_h_1
  have hl := h.lt
  have hl1 := hm.lt
  have hl2 := hm.ltb
  go_enter Try.func18, Try.ntmps18
  go_wp2_with (first | (go_at_call 19; go_in))
  go_region_held3 (fun W => W.cell? ⟨b, 1, none⟩ = some (.int .u64 era)) (simp [go_sem, c_h_1, hl])
    (first | (go_at_call 29; go_must (refine (era_any _).mono ?_; rintro e w1 ⟨rfl, rfl⟩)) | (go_at_call 38; go_must (refine (cas_any _ m mb σ (hm.mod (S := []) (by (repeat (first | with_reducible (first | exact Mod.refl _ _ | apply Mod.drewN | apply Mod.drew | apply Mod.alloc | refine Mod.setCell ?_ ?_ _ | refine Mod.put ?_ ?_ _) | focus (simp; done) | focus (simp; omega)))) (by simp) (by simp)) 2 0 0 era (IntKind.u64.wrap (era + 1)) (wrap_u64 _).1 (wrap_u64 _).2 (by decide)).mono ?_; rintro e w1 ⟨rfl, hm1, h1⟩; replace h := (((h.alloc _).drew).mod hm1 (by simp; omega)); clear c_h_0 c_h_1; have c_h_0 := h.cell 0; have c_h_1 := h.cell 1; have c_h_2 := h.cell 2; simp only [getRules] at c_h_0 c_h_1 c_h_2; have fz := h.frozen)))
  go_wp2_with (first | (go_at_call 19; go_in))
  go_ret
  refine ⟨rfl, ?_, h1.mod (S := [b]) ?_ ?_ ?_, ?_⟩
  · (repeat (first | with_reducible (first | exact hm1 | exact Mod.refl _ _ | apply Mod.drewN | apply Mod.drew | apply Mod.alloc | refine Mod.setCell ?_ ?_ _ | refine Mod.put ?_ ?_ _ | refine Mod.call ?_ hm1 ?_) | focus (simp; done) | focus (simp; omega)))
  · (repeat (first | with_reducible (first | exact Mod.refl _ _ | apply Mod.drewN | apply Mod.drew | apply Mod.alloc | refine Mod.setCell ?_ ?_ _ | refine Mod.put ?_ ?_ _) | focus (simp; done) | focus (simp; omega)))
  · simp; omega
  · simp; omega
  · unfold Has at h
    focus (simp (disch := first | omega | (simp; done) | (simp; omega)) only [Has, heapRules, h]; first | done | with_reducible rfl)

theorem lines_any (w : World) (t n : Int) (h0 : 0 ≤ t) (h1 : t < 16) : Calls Try.prog 27 #[.int .i64 t, .int .i64 n] w fun e w' => e = .returned (.int .i64 n) ∧ w = w' := by
  go_enter Try.func27, Try.ntmps27
  go_wp2
  go_ret
  exact ⟨rfl, rfl⟩

theorem may_thread {t f : Int} (h0 : 0 ≤ t) (h1 : t < 16) (f0 : 0 ≤ f) (f1 : f < 10) : mayA 8 t f = true := by
  simp [mayA, roomAt, roomF, *]

def enterO (left thread hi : Int) : Obj := .cells #[.int .i64 left, .int .i64 thread, .int .u64 hi] 87

theorem newEnter_any (w : World) (t : Int) (h0 : 0 ≤ t) (h1 : t < 16) : Calls Try.prog 24 #[.int .i64 t] w fun e w' => e = .returned (.pointer (some ⟨w.heap.size, 0, none⟩)) ∧ w.alloc (enterO 3 t 0) = w' := by
  go_enter Try.func24, Try.ntmps24
  go_wp2_with (first | (go_at_call 27; go_must (refine (lines_any _ _ _ h0 h1).mono ?_; rintro e w1 ⟨rfl, rfl⟩)))
  go_ret
  exact ⟨rfl, rfl⟩

theorem enterGot_over (w : World) (b : Nat) (t hi : Int) (h : Has w b (enterO 0 t hi)) :
    Calls Try.prog 26 #[.pointer (some ⟨b, 0, none⟩)] w fun e w' => e = .returned (.int .u64 hi) ∧ w = w' := by
  unfold enterO at h
  have c_h_0 := h.cell 0; have c_h_2 := h.cell 2; simp only [getRules] at c_h_0 c_h_2
  go_enter Try.func26, Try.ntmps26
  go_wp2
  go_ret
  exact ⟨rfl, rfl⟩

set_option maxHeartbeats 1000000 in
theorem enterStep_first (w : World) (b m mb : Nat) (σ : MS) (t hi : Int) (h : Has w b (enterO 3 t hi)) (hm : MemAt w m mb σ) (n1 : b ≠ m) (n2 : b ≠ mb) :
    Calls Try.prog 25 #[.pointer (some ⟨b, 0, none⟩), .pointer (some ⟨m, 0, none⟩)] w fun e w' =>
      e = .returned (.bool false) ∧ Mod w w' [m, b] ∧ MemAt w' m mb (σ.load 2 0 0) ∧ Has w' b (enterO 2 t (IntKind.u64.wrap (σ.g 2 0 0 + 1))) := by
  unfold enterO at h ⊢
  have c_h_0 := h.cell 0; simp only [getRules] at c_h_0
  have hl := h.lt
  have hl1 := hm.lt
  have hl2 := hm.ltb
  go_enter Try.func25, Try.ntmps25
  go_wp2_with (first | (go_at_call 42; go_in) | (go_at_call 29; go_must (refine (era_any _).mono ?_; rintro e w1 ⟨rfl, rfl⟩)) | (go_at_call 21; go_must (refine (load_any _ m mb σ (hm.mod ((Mod.refl _ []).alloc _) (by simp) (by simp)) 2 0 0).mono ?_; rintro e w1 ⟨rfl, hm1, h1⟩; replace h := (h.alloc _).mod hm1 (by first | (simp; done) | (simp; omega)); clear c_h_0; have c_h_0 := h.cell 0; have c_h_1 := h.cell 1; have c_h_2 := h.cell 2; simp only [getRules] at c_h_0 c_h_1 c_h_2; have fz := h.frozen)))
  go_ret
  refine ⟨rfl, ?_, h1.mod (S := [b]) ?_ ?_ ?_, ?_⟩
  · (repeat (first | with_reducible (first | exact hm1 | exact Mod.refl _ _ | apply Mod.drewN | apply Mod.drew | apply Mod.alloc | refine Mod.setCell ?_ ?_ _ | refine Mod.put ?_ ?_ _ | refine Mod.call ?_ hm1 ?_) | focus (simp; done) | focus (simp; omega)))
  · (repeat (first | with_reducible (first | exact Mod.refl _ _ | apply Mod.drewN | apply Mod.drew | apply Mod.alloc | refine Mod.setCell ?_ ?_ _ | refine Mod.put ?_ ?_ _) | focus (simp; done) | focus (simp; omega)))
  · simp; omega
  · simp; omega
  · unfold Has at h
    focus (simp (disch := first | omega | (simp; done) | (simp; omega)) only [Has, heapRules, h]; first | done | with_reducible rfl)

set_option maxRecDepth 100000 in
set_option maxHeartbeats 1000000 in
theorem enterStep_second (w : World) (b m mb : Nat) (σ : MS) (t hi : Int) (t0 : 0 ≤ t) (t1 : t < 16) (i0 : 0 ≤ hi) (i1 : Hid (hi < 18446744073709551616)) (h : Has w b (enterO 2 t hi)) (hm : MemAt w m mb σ) (n1 : b ≠ m) (n2 : b ≠ mb) :
    Calls Try.prog 25 #[.pointer (some ⟨b, 0, none⟩), .pointer (some ⟨m, 0, none⟩)] w fun e w' =>
      e = .returned (.bool false) ∧ Mod w w' [m, mb, b] ∧ MemAt w' m mb (σ.store 8 t 4 hi) ∧ Has w' b (enterO 1 t hi) := by
  unfold enterO at h ⊢
  have c_h_0 := h.cell 0; have c_h_1 := h.cell 1; have c_h_2 := h.cell 2; simp only [getRules] at c_h_0 c_h_1 c_h_2
  have hl := h.lt
  have hl1 := hm.lt
  have hl2 := hm.ltb
  have hmay : mayA 8 t 4 = true := may_thread t0 t1 (by omega) (by omega)
  go_enter Try.func25, Try.ntmps25
  go_wp2_with (first | (go_at_call 42; go_in))
  go_region_held3 (fun W => W.cell? ⟨b, 1, none⟩ = some (.int .i64 t) ∧ W.cell? ⟨b, 2, none⟩ = some (.int .u64 hi)) (first | exact ⟨by assumption, by assumption⟩ | (simp [go_sem, c_h_1, c_h_2, hl]))
    (first | (go_at_call 30; go_must (refine (efield_any _ _ _).mono ?_; rintro e w1 ⟨rfl, rfl⟩)) | (go_at_call 7; go_must (refine (store_any _ m mb σ (hm.mod (S := []) (by (repeat (first | with_reducible (first | exact Mod.refl _ _ | apply Mod.drewN | apply Mod.drew | apply Mod.alloc | refine Mod.setCell ?_ ?_ _ | refine Mod.put ?_ ?_ _) | focus (simp; done) | focus (simp; omega)))) (by simp) (by simp)) 8 t 4 hi i0 i1.out hmay).mono ?_; rintro e w1 ⟨rfl, hm1, h1⟩; have hM : Mod w w1 [m, mb] := (by (repeat (first | with_reducible (first | exact hm1 | exact Mod.refl _ _ | apply Mod.drewN | apply Mod.drew | apply Mod.alloc | refine Mod.setCell ?_ ?_ _ | refine Mod.put ?_ ?_ _ | refine Mod.call ?_ hm1 ?_) | focus (simp; done) | focus (simp; omega)))); replace h := h.mod hM (by first | (simp; done) | (simp; omega)); clear c_h_0 c_h_1 c_h_2; have c_h_0 := h.cell 0; have c_h_1 := h.cell 1; have c_h_2 := h.cell 2; simp only [getRules] at c_h_0 c_h_1 c_h_2; have fz := h.frozen)))
  go_wp2_with (first | (go_at_call 42; go_in))
  go_ret
  refine ⟨rfl, ?_, h1.mod (S := [b]) ?_ ?_ ?_, ?_⟩
  · (repeat (first | with_reducible (first | exact hM | exact Mod.refl _ _ | apply Mod.drewN | apply Mod.drew | apply Mod.alloc | refine Mod.setCell ?_ ?_ _ | refine Mod.put ?_ ?_ _ | refine Mod.call ?_ hM ?_) | focus (simp; done) | focus (simp; omega)))
  · (repeat (first | with_reducible (first | exact Mod.refl _ _ | apply Mod.drewN | apply Mod.drew | apply Mod.alloc | refine Mod.setCell ?_ ?_ _ | refine Mod.put ?_ ?_ _) | focus (simp; done) | focus (simp; omega)))
  · simp; omega
  · simp; omega
  · unfold Has at h
    focus (simp (disch := first | omega | (simp; done) | (simp; omega)) only [Has, heapRules, h]; first | done | with_reducible rfl)

set_option maxRecDepth 100000 in
set_option maxHeartbeats 1000000 in
theorem enterStep_third (w : World) (b m mb : Nat) (σ : MS) (t hi : Int) (t0 : 0 ≤ t) (t1 : t < 16) (i0 : 0 ≤ hi) (i1 : Hid (hi < 18446744073709551616)) (h : Has w b (enterO 1 t hi)) (hm : MemAt w m mb σ) (n1 : b ≠ m) (n2 : b ≠ mb) :
    Calls Try.prog 25 #[.pointer (some ⟨b, 0, none⟩), .pointer (some ⟨m, 0, none⟩)] w fun e w' =>
      e = .returned (.bool true) ∧ Mod w w' [m, mb, b] ∧ MemAt w' m mb (σ.store 8 t 5 hi) ∧ Has w' b (enterO 0 t hi) := by
  unfold enterO at h ⊢
  have c_h_0 := h.cell 0; have c_h_1 := h.cell 1; have c_h_2 := h.cell 2; simp only [getRules] at c_h_0 c_h_1 c_h_2
  have hl := h.lt
  have hl1 := hm.lt
  have hl2 := hm.ltb
  have hmay : mayA 8 t 5 = true := may_thread t0 t1 (by omega) (by omega)
  go_enter Try.func25, Try.ntmps25
  go_wp2_with (first | (go_at_call 42; go_in))
  go_region_held3 (fun W => W.cell? ⟨b, 1, none⟩ = some (.int .i64 t) ∧ W.cell? ⟨b, 2, none⟩ = some (.int .u64 hi)) (first | exact ⟨by assumption, by assumption⟩ | (simp [go_sem, c_h_1, c_h_2, hl]))
    (first | (go_at_call 30; go_must (refine (efield_any _ _ _).mono ?_; rintro e w1 ⟨rfl, rfl⟩)) | (go_at_call 7; go_must (refine (store_any _ m mb σ (hm.mod (S := []) (by (repeat (first | with_reducible (first | exact Mod.refl _ _ | apply Mod.drewN | apply Mod.drew | apply Mod.alloc | refine Mod.setCell ?_ ?_ _ | refine Mod.put ?_ ?_ _) | focus (simp; done) | focus (simp; omega)))) (by simp) (by simp)) 8 t 5 hi i0 i1.out hmay).mono ?_; rintro e w1 ⟨rfl, hm1, h1⟩; have hM : Mod w w1 [m, mb] := (by (repeat (first | with_reducible (first | exact hm1 | exact Mod.refl _ _ | apply Mod.drewN | apply Mod.drew | apply Mod.alloc | refine Mod.setCell ?_ ?_ _ | refine Mod.put ?_ ?_ _ | refine Mod.call ?_ hm1 ?_) | focus (simp; done) | focus (simp; omega)))); replace h := h.mod hM (by first | (simp; done) | (simp; omega)); clear c_h_0 c_h_1 c_h_2; have c_h_0 := h.cell 0; have c_h_1 := h.cell 1; have c_h_2 := h.cell 2; simp only [getRules] at c_h_0 c_h_1 c_h_2; have fz := h.frozen)))
  go_wp2_with (first | (go_at_call 42; go_in))
  go_ret
  refine ⟨rfl, ?_, h1.mod (S := [b]) ?_ ?_ ?_, ?_⟩
  · (repeat (first | with_reducible (first | exact hM | exact Mod.refl _ _ | apply Mod.drewN | apply Mod.drew | apply Mod.alloc | refine Mod.setCell ?_ ?_ _ | refine Mod.put ?_ ?_ _ | refine Mod.call ?_ hM ?_) | focus (simp; done) | focus (simp; omega)))
  · (repeat (first | with_reducible (first | exact Mod.refl _ _ | apply Mod.drewN | apply Mod.drew | apply Mod.alloc | refine Mod.setCell ?_ ?_ _ | refine Mod.put ?_ ?_ _) | focus (simp; done) | focus (simp; omega)))
  · simp; omega
  · simp; omega
  · unfold Has at h
    focus (simp (disch := first | omega | (simp; done) | (simp; omega)) only [Has, heapRules, h]; first | done | with_reducible rfl)

end Go.Proofs.Ytlecajmnmhpjkaa
