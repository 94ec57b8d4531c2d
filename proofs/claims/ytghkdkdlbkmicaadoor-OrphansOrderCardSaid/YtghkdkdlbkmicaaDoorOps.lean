/- Load, Store, CAS, Steps of a shared memory. -/
import Derived.Test.YtghkdkdlbkmicaaDoorMems
namespace Go.Proofs.YtghkdkdlbkmicaaDoor
open Go.RowKit

@[go_sem] theorem field_is (a b c d e f g : Value) (w : World) : (Instr.field 109 (.agg #[a, b, c, d, e, f, g]) 3).run Tryd.prog w = .ok f w := by kernel_rfl
@[go_sem] theorem field_done (a b c d e f g : Value) (w : World) : (Instr.field 109 (.agg #[a, b, c, d, e, f, g]) 4).run Tryd.prog w = .ok g w := by kernel_rfl

set_option maxHeartbeats 1000000 in
theorem load_any (w : World) (m mb : Nat) (σ : MS) (h : MemAt w m mb σ) (k a f : Int) :
    Calls Tryd.prog 14 #[.pointer (some ⟨m, 0, none⟩), K k a f] w fun e w' =>
      e = .returned (.int .u64 (σ.g k a f)) ∧ Mod w w' [m] ∧ MemAt w' m mb (σ.load k a f) := by
  have hl := h.lt
  have hlb := h.ltb
  unfold K
  go_enter Tryd.func14, Tryd.ntmps14
  go_wp2_with (go_at_call 46; go_must (refine (step_load _ m mb σ (h.mod ((Mod.refl _ []).alloc _) (by simp) (by simp)) k a f).mono ?_; rintro e w1 ⟨rfl, hm, h1⟩))
  go_ret
  refine ⟨rfl, ?_, h1⟩
  (repeat (first | with_reducible (first | exact hm | exact Mod.refl _ _ | apply Mod.drewN | apply Mod.drew | apply Mod.alloc | refine Mod.setCell ?_ ?_ _ | refine Mod.put ?_ ?_ _ | refine Mod.call ?_ hm ?_) | focus (simp; done) | focus (simp; omega)))

set_option maxHeartbeats 1000000 in
theorem store_any (w : World) (m mb : Nat) (σ : MS) (h : MemAt w m mb σ) (k a f v : Int) (hv0 : 0 ≤ v) (hv1 : v < 18446744073709551616) (hmay : mayA k a f = true) :
    Calls Tryd.prog 11 #[.pointer (some ⟨m, 0, none⟩), K k a f, .int .u64 v] w fun e w' =>
      e = .returned (.tuple #[]) ∧ Mod w w' [m, mb] ∧ MemAt w' m mb (σ.store k a f v) := by
  have hl := h.lt
  have hlb := h.ltb
  unfold K
  go_enter Tryd.func11, Tryd.ntmps11
  go_wp2_with (go_at_call 46; go_must (refine (step_store _ m mb (w.heap.size + 1) σ (h.mod (((Mod.refl _ []).alloc _).alloc _) (by simp) (by simp)) k a f v hv0 hv1 (Has.new_at _ _ _ (by simp)) (by omega) (by omega) hmay).mono ?_; rintro e w1 ⟨rfl, hm, h1⟩))
  go_end0
  refine ⟨rfl, ?_, h1⟩
  (repeat (first | with_reducible (first | exact hm | exact Mod.refl _ _ | apply Mod.drewN | apply Mod.drew | apply Mod.alloc | refine Mod.setCell ?_ ?_ _ | refine Mod.put ?_ ?_ _ | refine Mod.call ?_ hm ?_) | focus (simp; done) | focus (simp; omega)))

set_option maxHeartbeats 1000000 in
theorem cas_any (w : World) (m mb : Nat) (σ : MS) (h : MemAt w m mb σ) (k a f o n : Int) (hv0 : 0 ≤ n) (hv1 : n < 18446744073709551616) (hmay : mayA k a f = true) :
    Calls Tryd.prog 136 #[.pointer (some ⟨m, 0, none⟩), K k a f, .int .u64 o, .int .u64 n] w fun e w' =>
      e = .returned (.bool (σ.g k a f == o)) ∧ Mod w w' [m, mb] ∧ MemAt w' m mb (σ.cas k a f o n) := by
  have hl := h.lt
  have hlb := h.ltb
  unfold K
  cases hc : (σ.g k a f == o)
  · have Hc := Lib.hid hc
    clear hc
    go_enter Tryd.func136, Tryd.ntmps136
    go_wp2_with (go_at_call 46; go_must (refine (step_cas_no _ m mb (w.heap.size + 1 + 1) (w.heap.size + 1) σ (h.mod ((((Mod.refl _ []).alloc _).alloc _).alloc _) (by simp) (by simp)) k a f o n (Has.new_at _ _ _ (by simp)) ((Has.new_at _ _ _ (by simp)).alloc _) (by omega) (by omega) (by omega) (by omega) Hc.out).mono ?_; rintro e w1 ⟨rfl, hm, h1⟩))
    go_ret
    refine ⟨rfl, ?_, h1⟩
    (repeat (first | with_reducible (first | exact hm | exact Mod.refl _ _ | apply Mod.drewN | apply Mod.drew | apply Mod.alloc | refine Mod.setCell ?_ ?_ _ | refine Mod.put ?_ ?_ _ | refine Mod.call ?_ hm ?_) | focus (simp; done) | focus (simp; omega)))
  · have Hc := Lib.hid hc
    clear hc
    go_enter Tryd.func136, Tryd.ntmps136
    go_wp2_with (go_at_call 46; go_must (refine (step_cas_yes _ m mb (w.heap.size + 1 + 1) (w.heap.size + 1) σ (h.mod ((((Mod.refl _ []).alloc _).alloc _).alloc _) (by simp) (by simp)) k a f o n hv0 hv1 (Has.new_at _ _ _ (by simp)) ((Has.new_at _ _ _ (by simp)).alloc _) (by omega) (by omega) (by omega) (by omega) Hc.out hmay).mono ?_; rintro e w1 ⟨rfl, hm, h1⟩))
    go_ret
    refine ⟨rfl, ?_, h1⟩
    (repeat (first | with_reducible (first | exact hm | exact Mod.refl _ _ | apply Mod.drewN | apply Mod.drew | apply Mod.alloc | refine Mod.setCell ?_ ?_ _ | refine Mod.put ?_ ?_ _ | refine Mod.call ?_ hm ?_) | focus (simp; done) | focus (simp; omega)))


end Go.Proofs.YtghkdkdlbkmicaaDoor
