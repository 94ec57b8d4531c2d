/- A law's own memory; eras: raise, exit. -/
import Derived.Test.YtlecajmnmhpjkaaEras
import Derived.LoopTactic
namespace Go.Proofs.Ytlecajmnmhpjkaa
open Go.RowKit

/-- The world w of a law that began in w0: its memory m reads as σ; nothing that was there has turned. -/
structure MSys (w0 w : World) (m mb : Nat) (σ : MS) : Prop where
  mem : MemAt w m mb σ
  mod : Mod w0 w []
  lo : w0.heap.size ≤ m
  lob : w0.heap.size ≤ mb
theorem MSys.next {w0 w w' : World} {m mb : Nat} {σ σ' : MS} {S : List Nat} (h : MSys w0 w m mb σ) (hM : Mod w w' S) (hS : ∀ b ∈ S, w0.heap.size ≤ b) (hm : MemAt w' m mb σ') : MSys w0 w' m mb σ' :=
  ⟨hm, h.mod.call hM (fun b hb => .inr (hS b hb)), h.lo, h.lob⟩
theorem MSys.keep {w0 w w' : World} {m mb : Nat} {σ : MS} {S : List Nat} (h : MSys w0 w m mb σ) (hM : Mod w w' S) (hS : ∀ b ∈ S, w0.heap.size ≤ b) (h1 : m ∉ S) (h2 : mb ∉ S) : MSys w0 w' m mb σ :=
  h.next hM hS (h.mem.mod hM h1 h2)
theorem MSys.keep0 {w0 w w' : World} {m mb : Nat} {σ : MS} (h : MSys w0 w m mb σ) (hM : Mod w w' []) : MSys w0 w' m mb σ := h.keep hM (by simp) (by simp) (by simp)

theorem msys_new {w0 w : World} (hM : Mod w0 w []) : Calls Try.prog 6 #[] w fun e w' =>
    ∃ m mb, e = .returned (.pointer (some ⟨m, 0, none⟩)) ∧ MSys w0 w' m mb MS.new ∧ Mod w w' [] ∧ w.heap.size ≤ m ∧ w.heap.size ≤ mb := by
  refine (new_any w).mono ?_
  rintro e w' ⟨m, mb, he, h1, h2, hM', hm⟩
  have := hM.size
  exact ⟨m, mb, he, ⟨hm, hM.call hM' (by simp), by omega, by omega⟩, hM', h1, h2⟩

section
variable {w0 w : World} {m mb : Nat} {σ : MS} (h : MSys w0 w m mb σ)
include h
theorem msys_load (k a f : Int) : Calls Try.prog 21 #[.pointer (some ⟨m, 0, none⟩), K k a f] w fun e w' => e = .returned (.int .u64 (σ.g k a f)) ∧ MSys w0 w' m mb (σ.load k a f) ∧ Mod w w' [m] := by
  refine (load_any w m mb σ h.mem k a f).mono ?_
  rintro e w' ⟨he, hM, hm⟩
  exact ⟨he, h.next hM (by simpa using h.lo) hm, hM⟩
theorem msys_store (k a f v : Int) (hv0 : 0 ≤ v) (hv1 : v < 18446744073709551616) (hmay : mayA k a f = true) :
    Calls Try.prog 7 #[.pointer (some ⟨m, 0, none⟩), K k a f, .int .u64 v] w fun e w' => e = .returned (.tuple #[]) ∧ MSys w0 w' m mb (σ.store k a f v) ∧ Mod w w' [m, mb] := by
  refine (store_any w m mb σ h.mem k a f v hv0 hv1 hmay).mono ?_
  rintro e w' ⟨he, hM, hm⟩
  have h1 := h.lo
  have h2 := h.lob
  exact ⟨he, h.next hM (by intro b hb; simp at hb; omega) hm, hM⟩
end

theorem store_g {σ : MS} {k a f v : Int} (h : mayA k a f = true) (k' a' f' : Int) : (σ.store k a f v).g k' a' f' = if k' = k ∧ a' = a ∧ f' = f then v else σ.g k' a' f' := by
  unfold MS.store
  rw [if_pos h]
  rfl

def raiseO (left thread hi now : Int) (stayed : Bool) : Obj := .cells #[.int .i64 left, .int .i64 thread, .int .u64 hi, .int .u64 now, .bool stayed] 69

theorem newRaise_any (w : World) (t hi : Int) (h0 : 0 ≤ t) (h1 : t < 16) : Calls Try.prog 9 #[.int .i64 t, .int .u64 hi] w fun e w' => e = .returned (.pointer (some ⟨w.heap.size, 0, none⟩)) ∧ w.alloc (raiseO 2 t hi 0 false) = w' := by
  go_enter Try.func9, Try.ntmps9
  go_wp2_with (first | (go_at_call 27; go_must (refine (lines_any _ _ _ h0 h1).mono ?_; rintro e w1 ⟨rfl, rfl⟩)))
  go_ret
  exact ⟨rfl, rfl⟩

theorem raiseGot_any (w : World) (b : Nat) (l t hi now : Int) (st : Bool) (h : Has w b (raiseO l t hi now st)) :
    Calls Try.prog 11 #[.pointer (some ⟨b, 0, none⟩)] w fun e w' => e = .returned (.tuple #[.int .u64 hi, .bool st]) ∧ Mod w w' [] := by
  unfold raiseO at h
  have c_h_2 := h.cell 2; have c_h_4 := h.cell 4; simp only [getRules] at c_h_2 c_h_4
  go_enter Try.func11, Try.ntmps11
  go_wp2
  go_quiet (fail)
  go_wp2
  go_ret2
  exact ⟨rfl, (Mod.refl _ _).drewN _⟩

theorem raiseOver_any (w : World) (b : Nat) (l t hi now : Int) (st : Bool) (h : Has w b (raiseO l t hi now st)) :
    Calls Try.prog 28 #[.pointer (some ⟨b, 0, none⟩)] w fun e w' => e = .returned (.bool (l == 0)) ∧ w = w' := by
  unfold raiseO at h
  have c_h_0 := h.cell 0; simp only [getRules] at c_h_0
  go_enter Try.func28, Try.ntmps28
  go_wp2
  go_ret
  exact ⟨rfl, rfl⟩

/-- What the first step of a Raise leaves of it. -/
def raised (t hi now : Int) : Obj := if now = hi then raiseO 0 t hi now true else raiseO 1 t hi now false

set_option maxHeartbeats 1000000 in
theorem raiseStep_first (w : World) (b m mb : Nat) (σ : MS) (t hi n : Int) (h : Has w b (raiseO 2 t hi n false)) (hm : MemAt w m mb σ) (n1 : b ≠ m) (n2 : b ≠ mb) :
    Calls Try.prog 10 #[.pointer (some ⟨b, 0, none⟩), .pointer (some ⟨m, 0, none⟩)] w fun e w' =>
      e = .returned (.bool (decide (IntKind.u64.wrap (σ.g 2 0 0 + 1) = hi))) ∧ Mod w w' [m, b] ∧ MemAt w' m mb (σ.load 2 0 0) ∧ Has w' b (raised t hi (IntKind.u64.wrap (σ.g 2 0 0 + 1))) := by
  unfold raised
  have hl := h.lt
  have hl1 := hm.lt
  have hl2 := hm.ltb
  generalize hx : IntKind.u64.wrap (σ.g 2 0 0 + 1) = x
  have HX := Lib.hid hx
  clear hx
  by_cases he : x = hi
  · rw [if_pos he]
    subst he
    unfold raiseO at h ⊢
    have c_h_0 := h.cell 0; simp only [getRules] at c_h_0
    go_enter Try.func10, Try.ntmps10
    go_wp2_with (first | (go_at_call 28; go_in) | (go_at_call 29; go_must (refine (era_any _).mono ?_; rintro e w1 ⟨rfl, rfl⟩)) | (go_at_call 21; go_must (refine (load_any _ m mb σ (hm.mod ((Mod.refl _ []).alloc _) (by simp) (by simp)) 2 0 0).mono ?_; rintro e w1 ⟨rfl, hm1, h1⟩; replace h := (h.alloc _).mod hm1 (by first | (simp; done) | (simp; omega)); clear c_h_0; have c_h_0 := h.cell 0; have c_h_1 := h.cell 1; have c_h_2 := h.cell 2; have c_h_3 := h.cell 3; have c_h_4 := h.cell 4; simp only [getRules] at c_h_0 c_h_1 c_h_2 c_h_3 c_h_4; have fz := h.frozen; have hl3 := h.lt)))
    simp only [HX.out]
    go_quiet (fail)
    go_wp2_with (first | (go_at_call 28; go_must (refine (raiseOver_any _ b 0 t x x true (by unfold raiseO; unfold Has at h; focus (simp (disch := first | omega | (simp; done) | (simp; omega)) only [Has, heapRules, h]; first | done | with_reducible rfl))).mono ?_; rintro e w9 ⟨rfl, rfl⟩)))
    go_ret
    refine ⟨by simp, ?_, h1.mod (S := [b]) ?_ ?_ ?_, ?_⟩
    · (repeat (first | with_reducible (first | exact hm1 | exact Mod.refl _ _ | apply Mod.drewN | apply Mod.drew | apply Mod.alloc | refine Mod.setCell ?_ ?_ _ | refine Mod.put ?_ ?_ _ | refine Mod.call ?_ hm1 ?_) | focus (simp; done) | focus (simp; omega)))
    · (repeat (first | with_reducible (first | exact Mod.refl _ _ | apply Mod.drewN | apply Mod.drew | apply Mod.alloc | refine Mod.setCell ?_ ?_ _ | refine Mod.put ?_ ?_ _) | focus (simp; done) | focus (simp; omega)))
    · simp; omega
    · simp; omega
    · unfold Has at h
      focus (simp (disch := first | omega | (simp; done) | (simp; omega)) only [Has, heapRules, h]; first | done | with_reducible rfl)
  · rw [if_neg he]
    unfold raiseO at h ⊢
    have c_h_0 := h.cell 0; simp only [getRules] at c_h_0
    go_enter Try.func10, Try.ntmps10
    go_wp2_with (first | (go_at_call 28; go_in) | (go_at_call 29; go_must (refine (era_any _).mono ?_; rintro e w1 ⟨rfl, rfl⟩)) | (go_at_call 21; go_must (refine (load_any _ m mb σ (hm.mod ((Mod.refl _ []).alloc _) (by simp) (by simp)) 2 0 0).mono ?_; rintro e w1 ⟨rfl, hm1, h1⟩; replace h := (h.alloc _).mod hm1 (by first | (simp; done) | (simp; omega)); clear c_h_0; have c_h_0 := h.cell 0; have c_h_1 := h.cell 1; have c_h_2 := h.cell 2; have c_h_3 := h.cell 3; have c_h_4 := h.cell 4; simp only [getRules] at c_h_0 c_h_1 c_h_2 c_h_3 c_h_4; have fz := h.frozen; have hl3 := h.lt)))
    simp only [HX.out]
    go_quiet (fail)
    go_wp2_with (first | (go_at_call 28; go_must (refine (raiseOver_any _ b 1 t hi x false (by unfold raiseO; unfold Has at h; focus (simp (disch := first | omega | (simp; done) | (simp; omega)) only [Has, heapRules, h]; first | done | with_reducible rfl))).mono ?_; rintro e w9 ⟨rfl, rfl⟩)))
    go_ret
    refine ⟨by simp [he], ?_, h1.mod (S := [b]) ?_ ?_ ?_, ?_⟩
    · (repeat (first | with_reducible (first | exact hm1 | exact Mod.refl _ _ | apply Mod.drewN | apply Mod.drew | apply Mod.alloc | refine Mod.setCell ?_ ?_ _ | refine Mod.put ?_ ?_ _ | refine Mod.call ?_ hm1 ?_) | focus (simp; done) | focus (simp; omega)))
    · (repeat (first | with_reducible (first | exact Mod.refl _ _ | apply Mod.drewN | apply Mod.drew | apply Mod.alloc | refine Mod.setCell ?_ ?_ _ | refine Mod.put ?_ ?_ _) | focus (simp; done) | focus (simp; omega)))
    · simp; omega
    · simp; omega
    · unfold Has at h
      focus (simp (disch := first | omega | (simp; done) | (simp; omega)) only [Has, heapRules, h]; first | done | with_reducible rfl)

set_option maxRecDepth 100000 in
set_option maxHeartbeats 1000000 in
theorem raiseStep_last (w : World) (b m mb : Nat) (σ : MS) (t hi now : Int) (st : Bool) (t0 : 0 ≤ t) (t1 : t < 16) (i0 : 0 ≤ now) (i1 : Hid (now < 18446744073709551616)) (h : Has w b (raiseO 1 t hi now st)) (hm : MemAt w m mb σ) (n1 : b ≠ m) (n2 : b ≠ mb) :
    Calls Try.prog 10 #[.pointer (some ⟨b, 0, none⟩), .pointer (some ⟨m, 0, none⟩)] w fun e w' =>
      e = .returned (.bool true) ∧ Mod w w' [m, mb, b] ∧ MemAt w' m mb (σ.store 8 t 5 now) ∧ Has w' b (raiseO 0 t now now st) := by
  unfold raiseO at h ⊢
  have c_h_0 := h.cell 0; have c_h_1 := h.cell 1; have c_h_2 := h.cell 2; have c_h_3 := h.cell 3; simp only [getRules] at c_h_0 c_h_1 c_h_2 c_h_3
  have hl := h.lt
  have hl1 := hm.lt
  have hl2 := hm.ltb
  have hmay : mayA 8 t 5 = true := may_thread t0 t1 (by omega) (by omega)
  go_enter Try.func10, Try.ntmps10
  go_wp2_with (first | (go_at_call 28; go_in))
  go_region_held3 (fun W => W.cell? ⟨b, 1, none⟩ = some (.int .i64 t) ∧ W.cell? ⟨b, 3, none⟩ = some (.int .u64 now)) (first | exact ⟨by assumption, by assumption⟩ | (simp [go_sem, c_h_1, c_h_3, hl]))
    (first | (go_at_call 30; go_must (refine (efield_any _ _ _).mono ?_; rintro e w1 ⟨rfl, rfl⟩)) | (go_at_call 7; go_must (refine (store_any _ m mb σ (hm.mod (S := []) (by (repeat (first | with_reducible (first | exact Mod.refl _ _ | apply Mod.drewN | apply Mod.drew | apply Mod.alloc | refine Mod.setCell ?_ ?_ _ | refine Mod.put ?_ ?_ _) | focus (simp; done) | focus (simp; omega)))) (by simp) (by simp)) 8 t 5 now i0 i1.out hmay).mono ?_; rintro e w1 ⟨rfl, hm1, h1⟩; have hM : Mod w w1 [m, mb] := (by (repeat (first | with_reducible (first | exact hm1 | exact Mod.refl _ _ | apply Mod.drewN | apply Mod.drew | apply Mod.alloc | refine Mod.setCell ?_ ?_ _ | refine Mod.put ?_ ?_ _ | refine Mod.call ?_ hm1 ?_) | focus (simp; done) | focus (simp; omega)))); replace h := h.mod hM (by first | (simp; done) | (simp; omega)); clear c_h_0 c_h_1 c_h_2 c_h_3; have c_h_0 := h.cell 0; have c_h_1 := h.cell 1; have c_h_2 := h.cell 2; have c_h_3 := h.cell 3; simp only [getRules] at c_h_0 c_h_1 c_h_2 c_h_3; have fz := h.frozen; have hl3 := h.lt)))
  go_wp2_with (first | (go_at_call 28; go_must (refine (raiseOver_any _ b 0 t now now st (by unfold raiseO; unfold Has at h; focus (simp (disch := first | omega | (simp; done) | (simp; omega)) only [Has, heapRules, h]; first | done | with_reducible rfl))).mono ?_; rintro e w9 ⟨rfl, rfl⟩)))
  go_ret
  refine ⟨rfl, ?_, h1.mod (S := [b]) ?_ ?_ ?_, ?_⟩
  · (repeat (first | with_reducible (first | exact hM | exact Mod.refl _ _ | apply Mod.drewN | apply Mod.drew | apply Mod.alloc | refine Mod.setCell ?_ ?_ _ | refine Mod.put ?_ ?_ _ | refine Mod.call ?_ hM ?_) | focus (simp; done) | focus (simp; omega)))
  · (repeat (first | with_reducible (first | exact Mod.refl _ _ | apply Mod.drewN | apply Mod.drew | apply Mod.alloc | refine Mod.setCell ?_ ?_ _ | refine Mod.put ?_ ?_ _) | focus (simp; done) | focus (simp; omega)))
  · simp; omega
  · simp; omega
  · unfold Has at h
    focus (simp (disch := first | omega | (simp; done) | (simp; omega)) only [Has, heapRules, h]; first | done | with_reducible rfl)

def exitO (left thread : Int) : Obj := .cells #[.int .i64 left, .int .i64 thread] 81
theorem newExit_any (w : World) (t : Int) (h0 : 0 ≤ t) (h1 : t < 16) : Calls Try.prog 15 #[.int .i64 t] w fun e w' => e = .returned (.pointer (some ⟨w.heap.size, 0, none⟩)) ∧ w.alloc (exitO 2 t) = w' := by
  go_enter Try.func15, Try.ntmps15
  go_wp2_with (first | (go_at_call 27; go_must (refine (lines_any _ _ _ h0 h1).mono ?_; rintro e w1 ⟨rfl, rfl⟩)))
  go_ret
  exact ⟨rfl, rfl⟩
theorem exitOver_any (w : World) (b : Nat) (l t : Int) (h : Has w b (exitO l t)) :
    Calls Try.prog 37 #[.pointer (some ⟨b, 0, none⟩)] w fun e w' => e = .returned (.bool (l == 0)) ∧ w = w' := by
  unfold exitO at h
  have c_h_0 := h.cell 0; simp only [getRules] at c_h_0
  go_enter Try.func37, Try.ntmps37
  go_wp2
  go_ret
  exact ⟨rfl, rfl⟩

set_option maxRecDepth 100000 in
set_option maxHeartbeats 1000000 in
theorem exitStep_first (w : World) (b m mb : Nat) (σ : MS) (t : Int) (t0 : 0 ≤ t) (t1 : t < 16) (h : Has w b (exitO 2 t)) (hm : MemAt w m mb σ) (n1 : b ≠ m) (n2 : b ≠ mb) :
    Calls Try.prog 16 #[.pointer (some ⟨b, 0, none⟩), .pointer (some ⟨m, 0, none⟩)] w fun e w' =>
      e = .returned (.bool false) ∧ Mod w w' [m, mb, b] ∧ MemAt w' m mb (σ.store 8 t 4 0) ∧ Has w' b (exitO 1 t) := by
  have hl := h.lt
  have hl1 := hm.lt
  have hl2 := hm.ltb
  have hmay : mayA 8 t 4 = true := may_thread t0 t1 (by omega) (by omega)
  unfold exitO at h ⊢
  have c_h_0 := h.cell 0; have c_h_1 := h.cell 1; simp only [getRules] at c_h_0 c_h_1
  go_enter Try.func16, Try.ntmps16
  go_wp2_with (first | (go_at_call 37; go_in))
  go_region_held3 (fun W => W.cell? ⟨b, 0, none⟩ = some (.int .i64 2) ∧ W.cell? ⟨b, 1, none⟩ = some (.int .i64 t)) (first | exact ⟨by assumption, by assumption⟩ | (simp [go_sem, c_h_0, c_h_1, hl]))
    (first | (go_at_call 30; go_must (refine (efield_any _ _ _).mono ?_; rintro e w1 ⟨rfl, rfl⟩)) | (go_at_call 7; go_must (refine (store_any _ m mb σ (hm.mod (S := []) (by (repeat (first | with_reducible (first | exact Mod.refl _ _ | apply Mod.drewN | apply Mod.drew | apply Mod.alloc | refine Mod.setCell ?_ ?_ _ | refine Mod.put ?_ ?_ _) | focus (simp; done) | focus (simp; omega)))) (by simp) (by simp)) 8 t 4 0 (by omega) (by omega) hmay).mono ?_; rintro e w1 ⟨rfl, hm1, h1⟩; have hM : Mod w w1 [m, mb] := (by (repeat (first | with_reducible (first | exact hm1 | exact Mod.refl _ _ | apply Mod.drewN | apply Mod.drew | apply Mod.alloc | refine Mod.setCell ?_ ?_ _ | refine Mod.put ?_ ?_ _ | refine Mod.call ?_ hm1 ?_) | focus (simp; done) | focus (simp; omega)))); replace h := h.mod hM (by first | (simp; done) | (simp; omega)); clear c_h_0 c_h_1; have c_h_0 := h.cell 0; have c_h_1 := h.cell 1; simp only [getRules] at c_h_0 c_h_1; have fz := h.frozen; have hl3 := h.lt)))
  go_wp2_with (first | (go_at_call 37; go_in))
  go_ret
  refine ⟨rfl, ?_, h1.mod (S := [b]) ?_ ?_ ?_, ?_⟩
  · (repeat (first | with_reducible (first | exact hM | exact Mod.refl _ _ | apply Mod.drewN | apply Mod.drew | apply Mod.alloc | refine Mod.setCell ?_ ?_ _ | refine Mod.put ?_ ?_ _ | refine Mod.call ?_ hM ?_) | focus (simp; done) | focus (simp; omega)))
  · (repeat (first | with_reducible (first | exact Mod.refl _ _ | apply Mod.drewN | apply Mod.drew | apply Mod.alloc | refine Mod.setCell ?_ ?_ _ | refine Mod.put ?_ ?_ _) | focus (simp; done) | focus (simp; omega)))
  · simp; omega
  · simp; omega
  · unfold Has at h
    focus (simp (disch := first | omega | (simp; done) | (simp; omega)) only [Has, heapRules, h]; first | done | with_reducible rfl)

set_option maxRecDepth 100000 in
set_option maxHeartbeats 1000000 in
theorem exitStep_last (w : World) (b m mb : Nat) (σ : MS) (t : Int) (t0 : 0 ≤ t) (t1 : t < 16) (h : Has w b (exitO 1 t)) (hm : MemAt w m mb σ) (n1 : b ≠ m) (n2 : b ≠ mb) :
    Calls Try.prog 16 #[.pointer (some ⟨b, 0, none⟩), .pointer (some ⟨m, 0, none⟩)] w fun e w' =>
      e = .returned (.bool true) ∧ Mod w w' [m, mb, b] ∧ MemAt w' m mb (σ.store 8 t 5 0) ∧ Has w' b (exitO 0 t) := by
  have hl := h.lt
  have hl1 := hm.lt
  have hl2 := hm.ltb
  have hmay : mayA 8 t 5 = true := may_thread t0 t1 (by omega) (by omega)
  unfold exitO at h ⊢
  have c_h_0 := h.cell 0; have c_h_1 := h.cell 1; simp only [getRules] at c_h_0 c_h_1
  go_enter Try.func16, Try.ntmps16
  go_wp2_with (first | (go_at_call 37; go_in))
  go_region_held3 (fun W => W.cell? ⟨b, 0, none⟩ = some (.int .i64 1) ∧ W.cell? ⟨b, 1, none⟩ = some (.int .i64 t)) (first | exact ⟨by assumption, by assumption⟩ | (simp [go_sem, c_h_0, c_h_1, hl]))
    (first | (go_at_call 30; go_must (refine (efield_any _ _ _).mono ?_; rintro e w1 ⟨rfl, rfl⟩)) | (go_at_call 7; go_must (refine (store_any _ m mb σ (hm.mod (S := []) (by (repeat (first | with_reducible (first | exact Mod.refl _ _ | apply Mod.drewN | apply Mod.drew | apply Mod.alloc | refine Mod.setCell ?_ ?_ _ | refine Mod.put ?_ ?_ _) | focus (simp; done) | focus (simp; omega)))) (by simp) (by simp)) 8 t 5 0 (by omega) (by omega) hmay).mono ?_; rintro e w1 ⟨rfl, hm1, h1⟩; have hM : Mod w w1 [m, mb] := (by (repeat (first | with_reducible (first | exact hm1 | exact Mod.refl _ _ | apply Mod.drewN | apply Mod.drew | apply Mod.alloc | refine Mod.setCell ?_ ?_ _ | refine Mod.put ?_ ?_ _ | refine Mod.call ?_ hm1 ?_) | focus (simp; done) | focus (simp; omega)))); replace h := h.mod hM (by first | (simp; done) | (simp; omega)); clear c_h_0 c_h_1; have c_h_0 := h.cell 0; have c_h_1 := h.cell 1; simp only [getRules] at c_h_0 c_h_1; have fz := h.frozen; have hl3 := h.lt)))
  go_wp2_with (first | (go_at_call 37; go_in))
  go_ret
  refine ⟨rfl, ?_, h1.mod (S := [b]) ?_ ?_ ?_, ?_⟩
  · (repeat (first | with_reducible (first | exact hM | exact Mod.refl _ _ | apply Mod.drewN | apply Mod.drew | apply Mod.alloc | refine Mod.setCell ?_ ?_ _ | refine Mod.put ?_ ?_ _ | refine Mod.call ?_ hM ?_) | focus (simp; done) | focus (simp; omega)))
  · (repeat (first | with_reducible (first | exact Mod.refl _ _ | apply Mod.drewN | apply Mod.drew | apply Mod.alloc | refine Mod.setCell ?_ ?_ _ | refine Mod.put ?_ ?_ _) | focus (simp; done) | focus (simp; omega)))
  · simp; omega
  · simp; omega
  · unfold Has at h
    focus (simp (disch := first | omega | (simp; done) | (simp; omega)) only [Has, heapRules, h]; first | done | with_reducible rfl)

end Go.Proofs.Ytlecajmnmhpjkaa
