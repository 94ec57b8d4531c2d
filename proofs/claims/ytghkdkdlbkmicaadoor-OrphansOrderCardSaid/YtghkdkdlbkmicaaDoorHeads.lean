/- The header of a slot as a word: its state, its generation. -/
import Derived.Test.YtghkdkdlbkmicaaDoorWords
namespace Go.Proofs.YtghkdkdlbkmicaaDoor
open Go.RowKit

def hdrW (s g : Int) : Int := s + g * 8
def hdrS (x : Int) : Int := if 4 < x % 8 then 4 else x % 8
def hdrG (x : Int) : Int := x / 8 % 4294967296
theorem hdrW_range {s g : Int} (s0 : 0 ≤ s) (s1 : s < 8) (g0 : 0 ≤ g) (g1 : g < 4294967296) : 0 ≤ hdrW s g ∧ hdrW s g < 18446744073709551616 := by
  unfold hdrW
  omega
theorem hdrS_hdrW {s g : Int} (s0 : 0 ≤ s) (s1 : s ≤ 4) (_g0 : 0 ≤ g) (_g1 : g < 4294967296) : hdrS (hdrW s g) = s := by
  unfold hdrS hdrW
  rw [if_neg (by omega)]
  omega
theorem hdrG_hdrW {s g : Int} (s0 : 0 ≤ s) (s1 : s ≤ 4) (g0 : 0 ≤ g) (g1 : g < 4294967296) : hdrG (hdrW s g) = g := by
  unfold hdrG hdrW
  omega
theorem hdrG_range (x : Int) : 0 ≤ hdrG x ∧ hdrG x < 4294967296 := by
  unfold hdrG
  omega
theorem hdrS_range (x : Int) : 0 ≤ hdrS x ∧ hdrS x ≤ 4 := by
  unfold hdrS
  split <;> omega

theorem mask3_any (w : World) (h : FieldsAt w) : Calls Tryd.prog 88 #[.int .i64 3] w fun e w' => e = .returned (.int .u64 7) ∧ w = w' := by
  have c := h.cell 7 3 rfl
  go_enter Tryd.func88, Tryd.ntmps88
  go_wp2
  go_ret
  exact ⟨rfl, rfl⟩
theorem mask4_any (w : World) (h : FieldsAt w) : Calls Tryd.prog 88 #[.int .i64 4] w fun e w' => e = .returned (.int .u64 4294967295) ∧ w = w' := by
  have c := h.cell 9 32 rfl
  go_enter Tryd.func88, Tryd.ntmps88
  go_wp2
  go_ret
  exact ⟨rfl, rfl⟩

theorem takenS_3 (w : World) (h : FieldsAt w) (x : Int) (h0 : 0 ≤ x) (h1 : x < 18446744073709551616) :
    Calls Tryd.prog 143 #[.int .u64 x, .int .i64 3] w fun e w' => e = .returned (.int .u8 (x % 8)) ∧ ∃ n, w.drewN n = w' := by
  have c := h.cell 6 0 rfl
  go_enter Tryd.func143, Tryd.ntmps143
  go_wp2
  go_quiet ((go_at_call 88; exact Calls.quiet_of_same ((mask3_any _ (h.drewN _)).mono fun _ _ ⟨a, b⟩ => ⟨a, b.symm⟩)))
  go_wp2
  go_ret
  refine ⟨?_, nq, rfl⟩
  show Ending.returned (.int .u8 (IntKind.u8.wrap (bits .and .u64 x 7))) = _
  rw [and_mask64 3 (by omega) x 7 (by decide) h0 h1, IntKind.wrap_u8]
  congr 2
  omega

theorem taken32_4 (w : World) (h : FieldsAt w) (x : Int) (h0 : 0 ≤ x) (h1 : x < 18446744073709551616) :
    Calls Tryd.prog 84 #[.int .u64 x, .int .i64 4] w fun e w' => e = .returned (.int .u32 (hdrG x)) ∧ ∃ n, w.drewN n = w' := by
  have c := h.cell 8 3 rfl
  go_enter Tryd.func84, Tryd.ntmps84
  go_wp2
  go_quiet ((go_at_call 88; exact Calls.quiet_of_same ((mask4_any _ (h.drewN _)).mono fun _ _ ⟨a, b⟩ => ⟨a, b.symm⟩)))
  go_wp2
  go_ret
  refine ⟨?_, nq, rfl⟩
  show Ending.returned (.int .u32 (IntKind.u32.wrap (bits .and .u64 (x / 8) 4294967295))) = _
  rw [and_mask64 32 (by omega) (x / 8) 4294967295 (by decide) (by omega) (by omega), IntKind.wrap_u32]
  unfold hdrG
  congr 2
  omega

theorem asHeader_any (w : World) (h : FieldsAt w) (x : Int) (h0 : 0 ≤ x) (h1 : x < 18446744073709551616) :
    Calls Tryd.prog 110 #[.int .u64 x] w fun e w' => e = .returned (.tuple #[.int .u8 (hdrS x), .int .u32 (hdrG x)]) ∧ ∃ n, w.drewN n = w' := by
  have hs : hdrS x = if 4 < x % 8 then 4 else x % 8 := rfl
  by_cases hx : 4 < x % 8
  · rw [if_pos hx] at hs
    have HS := Lib.hid hs
    clear hs
    go_enter Tryd.func110, Tryd.ntmps110
    go_wp2_with (first | (go_at_call 143; go_must (refine (takenS_3 _ h x h0 h1).mono ?_; rintro e w1 ⟨rfl, n, rfl⟩)) | (go_at_call 84; go_must (refine (taken32_4 _ (h.drewN _) x h0 h1).mono ?_; rintro e w1 ⟨rfl, n2, rfl⟩)))
    go_ret2
    rw [HS.out]
    exact ⟨by simp, n + n2, by simp⟩
  · rw [if_neg hx] at hs
    have HS := Lib.hid hs
    clear hs
    go_enter Tryd.func110, Tryd.ntmps110
    go_wp2_with (first | (go_at_call 143; go_must (refine (takenS_3 _ h x h0 h1).mono ?_; rintro e w1 ⟨rfl, n, rfl⟩)) | (go_at_call 84; go_must (refine (taken32_4 _ (h.drewN _) x h0 h1).mono ?_; rintro e w1 ⟨rfl, n2, rfl⟩)))
    go_ret2
    rw [HS.out]
    exact ⟨by simp, n + n2, by simp⟩

theorem putS_3 (w : World) (h : FieldsAt w) (t : Int) (t0 : 0 ≤ t) (t1 : t < 8) :
    Calls Tryd.prog 106 #[.int .u64 0, .int .u8 t, .int .i64 3] w fun e w' => e = .returned (.int .u64 t) ∧ ∃ n, w.drewN n = w' := by
  have c := h.cell 6 0 rfl
  go_enter Tryd.func106, Tryd.ntmps106
  go_wp2
  go_quiet ((go_at_call 88; exact Calls.quiet_of_same ((mask3_any _ (h.drewN _)).mono fun _ _ ⟨a, b⟩ => ⟨a, b.symm⟩)))
  go_wp2
  go_ret
  refine ⟨?_, nq, rfl⟩
  show Ending.returned (.int .u64 (bits .or .u64 0 (IntKind.u64.wrap (bits .and .u64 t 7)))) = _
  rw [and_mask64 3 (by omega) t 7 (by decide) t0 (by omega), IntKind.wrap_u64]
  have e : t % ((2 ^ 3 : Nat) : Int) % 18446744073709551616 = t * ((2 ^ 0 : Nat) : Int) := by omega
  rw [e, or_add64 0 0 t (by omega) (by omega) t0 (by omega) (by omega)]
  congr 2
  omega

theorem put32_4 (w : World) (h : FieldsAt w) (s t : Int) (s0 : 0 ≤ s) (s1 : s < 8) (t0 : 0 ≤ t) (t1 : t < 4294967296) :
    Calls Tryd.prog 48 #[.int .u64 s, .int .u32 t, .int .i64 4] w fun e w' => e = .returned (.int .u64 (s + t * 8)) ∧ ∃ n, w.drewN n = w' := by
  have c := h.cell 8 3 rfl
  go_enter Tryd.func48, Tryd.ntmps48
  go_wp2
  go_quiet ((go_at_call 88; exact Calls.quiet_of_same ((mask4_any _ (h.drewN _)).mono fun _ _ ⟨a, b⟩ => ⟨a, b.symm⟩)))
  go_wp2
  go_ret
  refine ⟨?_, nq, rfl⟩
  show Ending.returned (.int .u64 (bits .or .u64 s (IntKind.u64.wrap (bits .and .u64 t 4294967295 * 8)))) = _
  rw [and_mask64 32 (by omega) t 4294967295 (by decide) t0 (by omega), IntKind.wrap_u64]
  have e : t % ((2 ^ 32 : Nat) : Int) * 8 % 18446744073709551616 = t * ((2 ^ 3 : Nat) : Int) := by omega
  rw [e, or_add64 3 s t s0 (by omega) t0 (by omega) (by omega)]
  congr 2

theorem header_any (w : World) (h : FieldsAt w) (s g : Int) (s0 : 0 ≤ s) (s1 : s ≤ 4) (g0 : 0 ≤ g) (g1 : g < 4294967296) :
    Calls Tryd.prog 58 #[.int .u8 s, .int .u32 g] w fun e w' => e = .returned (.int .u64 (hdrW s g)) ∧ ∃ n, w.drewN n = w' := by
  go_enter Tryd.func58, Tryd.ntmps58
  go_wp2_with (first | (go_at_call 106; go_must (refine (putS_3 _ h s (by omega) (by omega)).mono ?_; rintro e w1 ⟨rfl, n, rfl⟩)) | (go_at_call 48; go_must (refine (put32_4 _ (h.drewN _) s g (by omega) (by omega) (by omega) (by omega)).mono ?_; rintro e w1 ⟨rfl, n2, rfl⟩)))
  go_ret
  exact ⟨by simp [hdrW], n + n2, by simp⟩

end Go.Proofs.YtghkdkdlbkmicaaDoor
