/- The word of a block of threads: how many joined, is it closed. -/
import Derived.Test.YtghkdkdlbkmicaaDoorWords
namespace Go.Proofs.YtghkdkdlbkmicaaDoor
open Go.RowKit

def blkN (x : Int) : Int := x % 4294967296
def blkC (x : Int) : Bool := x / 4294967296 % 2 == 1
def blockW (n : Int) (c : Bool) : Int := n + (if c = true then 4294967296 else 0)
theorem blockW_range {n : Int} (h0 : 0 ≤ n) (h1 : n < 4294967296) (c : Bool) : 0 ≤ blockW n c ∧ blockW n c < 18446744073709551616 := by
  unfold blockW
  split <;> omega
theorem blkN_blockW {n : Int} (h0 : 0 ≤ n) (h1 : n < 4294967296) (c : Bool) : blkN (blockW n c) = n := by
  unfold blkN blockW
  split <;> omega
theorem blkC_blockW {n : Int} (h0 : 0 ≤ n) (h1 : n < 4294967296) (c : Bool) : blkC (blockW n c) = c := by
  unfold blkC blockW
  cases c
  · simp
    omega
  · simp
    omega

theorem mask9_any (w : World) (h : FieldsAt w) : Calls Tryd.prog 88 #[.int .i64 9] w fun e w' => e = .returned (.int .u64 4294967295) ∧ w = w' := by
  have c := h.cell 19 32 rfl
  go_enter Tryd.func88, Tryd.ntmps88
  go_wp2
  go_ret
  exact ⟨rfl, rfl⟩
theorem mask10_any (w : World) (h : FieldsAt w) : Calls Tryd.prog 88 #[.int .i64 10] w fun e w' => e = .returned (.int .u64 1) ∧ w = w' := by
  have c := h.cell 21 1 rfl
  go_enter Tryd.func88, Tryd.ntmps88
  go_wp2
  go_ret
  exact ⟨rfl, rfl⟩

theorem taken32_9 (w : World) (h : FieldsAt w) (x : Int) (h0 : 0 ≤ x) (h1 : x < 18446744073709551616) :
    Calls Tryd.prog 84 #[.int .u64 x, .int .i64 9] w fun e w' => e = .returned (.int .u32 (blkN x)) ∧ ∃ n, w.drewN n = w' := by
  have c := h.cell 18 0 rfl
  go_enter Tryd.func84, Tryd.ntmps84
  go_wp2
  go_quiet ((go_at_call 88; exact Calls.quiet_of_same ((mask9_any _ (h.drewN _)).mono fun _ _ ⟨a, b⟩ => ⟨a, b.symm⟩)))
  go_wp2
  go_ret
  refine ⟨?_, nq, rfl⟩
  show Ending.returned (.int .u32 (IntKind.u32.wrap (bits .and .u64 x 4294967295))) = _
  rw [and_mask64 32 (by omega) x 4294967295 (by decide) h0 h1, IntKind.wrap_u32]
  unfold blkN
  congr 2
  omega

theorem taken8_10 (w : World) (h : FieldsAt w) (x : Int) (h0 : 0 ≤ x) (h1 : x < 18446744073709551616) :
    Calls Tryd.prog 85 #[.int .u64 x, .int .i64 10] w fun e w' => e = .returned (.int .u8 (x / 4294967296 % 2)) ∧ ∃ n, w.drewN n = w' := by
  have c := h.cell 20 32 rfl
  go_enter Tryd.func85, Tryd.ntmps85
  go_wp2
  go_quiet ((go_at_call 88; exact Calls.quiet_of_same ((mask10_any _ (h.drewN _)).mono fun _ _ ⟨a, b⟩ => ⟨a, b.symm⟩)))
  go_wp2
  go_ret
  refine ⟨?_, nq, rfl⟩
  show Ending.returned (.int .u8 (IntKind.u8.wrap (bits .and .u64 (x / 4294967296) 1))) = _
  rw [and_mask64 1 (by omega) (x / 4294967296) 1 (by decide) (by omega) (by omega), IntKind.wrap_u8]
  congr 2
  omega

theorem asBlock_any (w : World) (h : FieldsAt w) (x : Int) (h0 : 0 ≤ x) (h1 : x < 18446744073709551616) :
    Calls Tryd.prog 44 #[.int .u64 x] w fun e w' => e = .returned (.tuple #[.int .u32 (blkN x), .bool (blkC x)]) ∧ ∃ n, w.drewN n = w' := by
  go_enter Tryd.func44, Tryd.ntmps44
  go_wp2_with (first | (go_at_call 84; go_must (refine (taken32_9 _ h x h0 h1).mono ?_; rintro e w1 ⟨rfl, n, rfl⟩)) | (go_at_call 85; go_must (refine (taken8_10 _ (h.drewN _) x h0 h1).mono ?_; rintro e w1 ⟨rfl, n2, rfl⟩)))
  go_ret2
  exact ⟨rfl, n + n2, by simp⟩

theorem put32_9 (w : World) (h : FieldsAt w) (t : Int) (t0 : 0 ≤ t) (t1 : t < 4294967296) :
    Calls Tryd.prog 48 #[.int .u64 0, .int .u32 t, .int .i64 9] w fun e w' => e = .returned (.int .u64 t) ∧ ∃ n, w.drewN n = w' := by
  have c := h.cell 18 0 rfl
  go_enter Tryd.func48, Tryd.ntmps48
  go_wp2
  go_quiet ((go_at_call 88; exact Calls.quiet_of_same ((mask9_any _ (h.drewN _)).mono fun _ _ ⟨a, b⟩ => ⟨a, b.symm⟩)))
  go_wp2
  go_ret
  refine ⟨?_, nq, rfl⟩
  show Ending.returned (.int .u64 (bits .or .u64 0 (IntKind.u64.wrap (bits .and .u64 t 4294967295)))) = _
  rw [and_mask64 32 (by omega) t 4294967295 (by decide) t0 (by omega), IntKind.wrap_u64]
  have e : t % ((2 ^ 32 : Nat) : Int) % 18446744073709551616 = t * ((2 ^ 0 : Nat) : Int) := by omega
  rw [e, or_add64 0 0 t (by omega) (by omega) t0 (by omega) (by omega)]
  congr 2
  omega

theorem put8_10 (w : World) (h : FieldsAt w) (x : Int) (h0 : 0 ≤ x) (h1 : x < 4294967296) :
    Calls Tryd.prog 49 #[.int .u64 x, .int .u8 1, .int .i64 10] w fun e w' => e = .returned (.int .u64 (x + 4294967296)) ∧ ∃ n, w.drewN n = w' := by
  have c := h.cell 20 32 rfl
  go_enter Tryd.func49, Tryd.ntmps49
  go_wp2
  go_quiet ((go_at_call 88; exact Calls.quiet_of_same ((mask10_any _ (h.drewN _)).mono fun _ _ ⟨a, b⟩ => ⟨a, b.symm⟩)))
  go_wp2
  go_ret
  refine ⟨?_, nq, rfl⟩
  have e : bits .or .u64 x (1 * ((2 ^ 32 : Nat) : Int)) = x + 1 * ((2 ^ 32 : Nat) : Int) := or_add64 32 x 1 h0 (by omega) (by omega) (by omega) (by omega)
  exact congrArg (fun y => Ending.returned (.int .u64 y)) e

theorem block_any (w : World) (h : FieldsAt w) (n : Int) (c : Bool) (h0 : 0 ≤ n) (h1 : n < 4294967296) :
    Calls Tryd.prog 12 #[.int .u32 n, .bool c] w fun e w' => e = .returned (.int .u64 (blockW n c)) ∧ ∃ k, w.drewN k = w' := by
  cases c
  · go_enter Tryd.func12, Tryd.ntmps12
    go_wp2_with (first | (go_at_call 48; go_must (refine (put32_9 _ h n h0 h1).mono ?_; rintro e w1 ⟨rfl, k, rfl⟩)))
    go_ret
    exact ⟨by simp [blockW], k, rfl⟩
  · go_enter Tryd.func12, Tryd.ntmps12
    go_wp2_with (first | (go_at_call 48; go_must (refine (put32_9 _ h n h0 h1).mono ?_; rintro e w1 ⟨rfl, k, rfl⟩)) | (go_at_call 49; go_must (refine (put8_10 _ (h.drewN _) n h0 h1).mono ?_; rintro e w1 ⟨rfl, k2, rfl⟩)))
    go_ret
    exact ⟨by simp [blockW], k + k2, by simp⟩

end Go.Proofs.YtghkdkdlbkmicaaDoor
