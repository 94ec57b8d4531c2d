/- Shared words put together and taken apart: what the functions of words compute. -/
import Derived.Test.YtghkdkdlbkmicaaDoorOps
import Derived.Deep.RegionHeld3
namespace Go.Proofs.YtghkdkdlbkmicaaDoor
open Go.RowKit

/-- The table of fields, cell by cell. -/
def fieldTab : List Int := [0, 16, 16, 32, 16, 48, 0, 3, 3, 32, 0, 3, 3, 3, 6, 3, 16, 48, 0, 32, 32, 1]
/-- The variable 'fields' holds its table. -/
structure FieldsAt (w : World) : Prop where
  lt : 0 < w.heap.size
  cell : ∀ i v, fieldTab[i]? = some v → w.cell? ⟨0, i, none⟩ = some (.int .u64 v)

theorem FieldsAt.mod {w w' : World} {S : List Nat} (h : FieldsAt w) (hm : Mod w w' S) (hg : 0 ∉ S) : FieldsAt w' :=
  ⟨Nat.lt_of_lt_of_le h.lt hm.size, fun i v hi => by rw [World.cell?_of_block (w := w) (hm.same _ h.lt hg)]; exact h.cell i v hi⟩
theorem FieldsAt.drewN {w : World} (h : FieldsAt w) (n : Nat) : FieldsAt (w.drewN n) := ⟨h.lt, h.cell⟩

theorem and_mask64 (n : Nat) (hn : n ≤ 64) (x M : Int) (hM : M = ((2 ^ n - 1 : Nat) : Int)) (h0 : 0 ≤ x) (h1 : x < 18446744073709551616) :
    bits .and .u64 x M = x % ((2 ^ n : Nat) : Int) := by
  subst hM
  obtain ⟨k, rfl⟩ := Int.eq_ofNat_of_zero_le h0
  have hp : 2 ^ n ≤ 18446744073709551616 := by
    have := Nat.pow_le_pow_right (n := 2) (by omega) hn
    omega
  have hq : 0 < 2 ^ n := Nat.two_pow_pos n
  rw [u64_and_nat k (2 ^ n - 1) (by omega) (by omega), Nat.and_two_pow_sub_one_eq_mod]
  simp

theorem or_add64 (n : Nat) (x y : Int) (h0 : 0 ≤ x) (h1 : x < ((2 ^ n : Nat) : Int)) (y0 : 0 ≤ y) (yl : y * ((2 ^ n : Nat) : Int) < 18446744073709551616) (h2 : x < 18446744073709551616) :
    bits .or .u64 x (y * ((2 ^ n : Nat) : Int)) = x + y * ((2 ^ n : Nat) : Int) := by
  obtain ⟨a, rfl⟩ := Int.eq_ofNat_of_zero_le h0
  obtain ⟨b, rfl⟩ := Int.eq_ofNat_of_zero_le y0
  have ha : a < 2 ^ n := by omega
  have e : (b : Int) * ((2 ^ n : Nat) : Int) = ((2 ^ n * b : Nat) : Int) := by
    rw [Int.natCast_mul, Int.mul_comm]
  rw [e] at yl ⊢
  have hl : 2 ^ n * b < 18446744073709551616 := by omega
  by_cases hb : b = 0
  · subst hb
    rw [u64_or_nat a _ (by omega) (by simp)]
    simp
  · have : 2 ^ n ≤ 2 ^ n * b := Nat.le_mul_of_pos_right _ (by omega)
    rw [u64_or_nat a _ (by omega) hl, Nat.or_comm, ← Nat.two_pow_add_eq_or_of_lt ha]
    omega

/-- A word's slot, or -1. -/
def mayS (s : Int) : Bool := decide (0 ≤ s) && decide (s < 256)
def slotW (x : Int) : Int := if mayS (x % 65536 - 1) = true then x % 65536 - 1 else -1
def headW (s t : Int) : Int := (if mayS s = true then s + 1 else 0) + t % 281474976710656 * 65536

theorem headW_range (s t : Int) : 0 ≤ headW s t ∧ headW s t < 18446744073709551616 := by
  unfold headW
  have : 0 ≤ t % 281474976710656 ∧ t % 281474976710656 < 281474976710656 := by omega
  split
  · rename_i hs
    simp [mayS] at hs
    omega
  · omega

theorem mask2_any (w : World) (h : FieldsAt w) : Calls Tryd.prog 88 #[.int .i64 2] w fun e w' => e = .returned (.int .u64 281474976710655) ∧ w = w' := by
  have c := h.cell 5 48 rfl
  go_enter Tryd.func88, Tryd.ntmps88
  go_wp2
  go_ret
  exact ⟨rfl, rfl⟩
theorem mask0_any (w : World) (h : FieldsAt w) : Calls Tryd.prog 88 #[.int .i64 0] w fun e w' => e = .returned (.int .u64 65535) ∧ w = w' := by
  have c := h.cell 1 16 rfl
  go_enter Tryd.func88, Tryd.ntmps88
  go_wp2
  go_ret
  exact ⟨rfl, rfl⟩

theorem wmay_any (w : World) (s : Int) : Calls Tryd.prog 159 #[.int .i64 s] w fun e w' => e = .returned (.bool (mayS s)) ∧ w = w' := by
  go_enter Tryd.func159, Tryd.ntmps159
  go_wp2
  all_goals
    go_ret
    refine ⟨?_, rfl⟩
    simp [mayS, *]
    try omega

theorem taken16_0 (w : World) (h : FieldsAt w) (x : Int) (h0 : 0 ≤ x) (h1 : x < 18446744073709551616) :
    Calls Tryd.prog 158 #[.int .u64 x, .int .i64 0] w fun e w' => e = .returned (.int .u16 (x % 65536)) ∧ ∃ n, w.drewN n = w' := by
  have c := h.cell 0 0 rfl
  go_enter Tryd.func158, Tryd.ntmps158
  go_wp2
  go_quiet ((go_at_call 88; exact Calls.quiet_of_same ((mask0_any _ (h.drewN _)).mono fun _ _ ⟨a, b⟩ => ⟨a, b.symm⟩)))
  go_wp2
  go_ret
  refine ⟨?_, nq, rfl⟩
  show Ending.returned (.int .u16 (IntKind.u16.wrap (bits .and .u64 x 65535))) = _
  rw [and_mask64 16 (by omega) x 65535 (by decide) h0 h1, IntKind.wrap_u16]
  congr 2
  omega

theorem taken64_2 (w : World) (h : FieldsAt w) (x : Int) (h0 : 0 ≤ x) (h1 : x < 18446744073709551616) :
    Calls Tryd.prog 142 #[.int .u64 x, .int .i64 2] w fun e w' => e = .returned (.int .u64 (x / 65536)) ∧ ∃ n, w.drewN n = w' := by
  have c := h.cell 4 16 rfl
  go_enter Tryd.func142, Tryd.ntmps142
  go_wp2
  go_quiet ((go_at_call 88; exact Calls.quiet_of_same ((mask2_any _ (h.drewN _)).mono fun _ _ ⟨a, b⟩ => ⟨a, b.symm⟩)))
  go_wp2
  go_ret
  refine ⟨?_, nq, rfl⟩
  show Ending.returned (.int .u64 (bits .and .u64 (x / 65536) 281474976710655)) = _
  rw [and_mask64 48 (by omega) (x / 65536) 281474976710655 (by decide) (by omega) (by omega)]
  congr 2
  omega

theorem put64_2 (w : World) (h : FieldsAt w) (x t : Int) (h0 : 0 ≤ x) (h1 : x < 65536) (t0 : 0 ≤ t) (t1 : t < 18446744073709551616) :
    Calls Tryd.prog 145 #[.int .u64 x, .int .u64 t, .int .i64 2] w fun e w' => e = .returned (.int .u64 (x + t % 281474976710656 * 65536)) ∧ ∃ n, w.drewN n = w' := by
  have c := h.cell 4 16 rfl
  go_enter Tryd.func145, Tryd.ntmps145
  go_wp2
  go_quiet ((go_at_call 88; exact Calls.quiet_of_same ((mask2_any _ (h.drewN _)).mono fun _ _ ⟨a, b⟩ => ⟨a, b.symm⟩)))
  go_wp2
  go_ret
  refine ⟨?_, nq, rfl⟩
  show Ending.returned (.int .u64 (bits .or .u64 x (IntKind.u64.wrap (bits .and .u64 t 281474976710655 * 65536)))) = _
  rw [and_mask64 48 (by omega) t 281474976710655 (by decide) t0 t1, IntKind.wrap_u64]
  have e : t % ((2 ^ 48 : Nat) : Int) * 65536 % 18446744073709551616 = t % 281474976710656 * ((2 ^ 16 : Nat) : Int) := by omega
  rw [e, or_add64 16 x _ h0 (by omega) (by omega) (by omega) (by omega)]
  congr 2

theorem wslot_any (w : World) (h : FieldsAt w) (x : Int) (h0 : 0 ≤ x) (h1 : x < 18446744073709551616) :
    Calls Tryd.prog 141 #[.int .u64 x] w fun e w' => e = .returned (.int .i64 (slotW x)) ∧ ∃ n, w.drewN n = w' := by
  have b0 : 0 ≤ x % 65536 := by omega
  have b1 : x % 65536 < 65536 := by omega
  cases hs : mayS (x % 65536 - 1)
  all_goals
    have Hs := Lib.hid hs
    have Hw : Hid (slotW x = _) := Lib.hid (by unfold slotW; rw [hs])
    clear hs
    go_enter Tryd.func141, Tryd.ntmps141
    go_wp2_with (first | (go_at_call 158; go_must (refine (taken16_0 _ h x h0 h1).mono ?_; rintro e w1 ⟨rfl, n, rfl⟩)) | (go_at_call 159; go_must (refine (wmay_any _ _).mono ?_; rintro e w1 ⟨rfl, rfl⟩; rw [Hs.out])))
    go_ret
    refine ⟨?_, n, rfl⟩
    rw [Hw.out]
    simp

theorem wslotted_any (w : World) (s : Int) :
    Calls Tryd.prog 146 #[.int .i64 s] w fun e w' => e = .returned (.int .u64 (if mayS s = true then s + 1 else 0)) ∧ w = w' := by
  cases hs : mayS s
  all_goals
    have Hs := Lib.hid hs
    go_enter Tryd.func146, Tryd.ntmps146
    go_wp2_with (first | (go_at_call 159; go_must (refine (wmay_any _ _).mono ?_; rintro e w1 ⟨rfl, rfl⟩)))
    go_ret
    refine ⟨?_, rfl⟩
    first
      | (simp; done)
      | (simp [mayS] at hs; simp; rw [IntKind.wrap_u64]; unfold wrap64; omega)

theorem asHead_any (w : World) (h : FieldsAt w) (x : Int) (h0 : 0 ≤ x) (h1 : x < 18446744073709551616) :
    Calls Tryd.prog 109 #[.int .u64 x] w fun e w' => e = .returned (.tuple #[.int .i64 (slotW x), .int .u64 (x / 65536)]) ∧ ∃ n, w.drewN n = w' := by
  go_enter Tryd.func109, Tryd.ntmps109
  go_wp2_with (first | (go_at_call 141; go_must (refine (wslot_any _ h x h0 h1).mono ?_; rintro e w1 ⟨rfl, n, rfl⟩)) | (go_at_call 142; go_must (refine (taken64_2 _ (h.drewN _) x h0 h1).mono ?_; rintro e w1 ⟨rfl, n2, rfl⟩)))
  go_ret2
  exact ⟨rfl, n + n2, by simp⟩

theorem head_any (w : World) (h : FieldsAt w) (s t : Int) (t0 : 0 ≤ t) (t1 : t < 18446744073709551616) :
    Calls Tryd.prog 113 #[.int .i64 s, .int .u64 t] w fun e w' => e = .returned (.int .u64 (headW s t)) ∧ ∃ n, w.drewN n = w' := by
  have b : 0 ≤ (if mayS s = true then s + 1 else 0) ∧ (if mayS s = true then s + 1 else 0) < 65536 := by
    split
    · rename_i hs
      simp [mayS] at hs
      omega
    · omega
  obtain ⟨y, hy⟩ : ∃ y, y = (if mayS s = true then s + 1 else 0) := ⟨_, rfl⟩
  rw [← hy] at b
  have Hy := Lib.hid hy
  clear hy
  go_enter Tryd.func113, Tryd.ntmps113
  go_wp2_with (first | (go_at_call 146; go_must (refine (wslotted_any _ s).mono ?_; rintro e w1 ⟨rfl, rfl⟩; rw [← Hy.out])) | (go_at_call 145; go_must (refine (put64_2 _ h y t b.1 b.2 t0 t1).mono ?_; rintro e w1 ⟨rfl, n2, rfl⟩)))
  go_ret
  refine ⟨?_, n2, rfl⟩
  unfold headW
  rw [← Hy.out]
  rfl

end Go.Proofs.YtghkdkdlbkmicaaDoor
