/- TablesFull: the walk. -/
import Derived.Test.YtghkdkdlbkmicaaDoorTableLives
namespace Go.Proofs.YtghkdkdlbkmicaaDoor.law10
open Go.RowKit

/-- The same words, but for those behind ThIn. -/
def Wide (g g' : Int → Int → Int → Int) : Prop := ∀ a b c, ¬ (a = 8 ∧ 2 ≤ c ∧ c ≤ 9) → g' a b c = g a b c
theorem Wide.put {g g' : Int → Int → Int → Int} (h : Wide g g') (t f v : Int) (h2 : 2 ≤ f) (h9 : f ≤ 9) : Wide g (gput g' 8 t f v) := by
  intro a b c hh
  unfold gput
  rw [if_neg (by omega)]
  exact h a b c hh

set_option maxRecDepth 100000 in
set_option maxHeartbeats 2000000 in
/-- Words are stored, and one joins. -/
theorem joinedOver_any {w0 w : World} {m mb : Nat} {g : Int → Int → Int → Int} {n shut P : Nat} (h : GSys w0 w m mb g) (hst : St g n shut P) (o : Int) (o0 : 0 ≤ o) (o1 : o < 1000000) (was : Int) (s0 : 0 ≤ was) (S1 : Hid (was < 18446744073709551616)) (hP : P < 4 * n) (hs : P / 4 ≠ shut) :
    Calls Tryd.prog 13 #[.pointer (some ⟨m, 0, none⟩), .int .i64 o, .int .u64 was] w fun e w' =>
      e = .returned (.tuple #[.int .i64 P, .int .i64 0, .int .i64 (P / 4 + P % 4 + 13 : Nat)]) ∧ (∃ g', GSys w0 w' m mb g' ∧ St g' n shut (P + 1) ∧ (∀ c, 1 ≤ c → c ≤ 9 → g' 8 P c = 0) ∧ g' 8 P 0 = o + 1) ∧ Mod w w' [m, mb] := by
  have hlo := h.lo
  have hM0 : Mod w w [m, mb] := (Mod.refl w []).wider (by simp)
  have hw0 : Wide g g := fun _ _ _ _ => rfl
  go_enter Tryd.func13, Tryd.ntmps13
  go_wp2_with fail
  go_loopw [9] (fun v wr => ∃ t : Nat, t ≤ 16 ∧ v = .int .i64 t ∧ Mod w wr [m, mb] ∧ ∃ g', GSys w0 wr m mb g' ∧ Wide g g') (fun v _ => 16 - (intOf v).toNat)
  case atStart => exact ⟨0, by omega, rfl, hM0, g, h, hw0⟩
  case round =>
    clear h hM0 hw0
    obtain ⟨t, ht, rfl, hM, g', h, hw⟩ := hrel
    by_cases h16 : t < 16
    · go_wp2_with fail
      refine (of_any wr t 0).mono ?_
      rintro e w1 ⟨rfl, hM1⟩
      replace h := h.keep0 hM1
      replace hM := hM.call hM1 (by simp)
      clear hM1
      go_wp2_with fail
      refine (gsys_load h 8 t 0).mono ?_
      rintro e w2 ⟨rfl, h2, hM2⟩
      replace hM := hM.call hM2 (by intro c hc; simp at hc; left; simp [hc])
      clear h hM2
      generalize g' 8 t 0 = x
      by_cases hx : x = 0
      rotate_left
      · have hxb : (x == 0) = false := by simpa using hx
        go_wp2_with fail
        exact ⟨⟨t + 1, by omega, by go_num, hM, g', h2, hw⟩, by simp [intOf]; omega⟩
      · subst hx
        go_wp2_with fail
        go_loopw [10] (fun v wr => ∃ f : Nat, 2 ≤ f ∧ f ≤ 10 ∧ v = .int .i64 f ∧ Mod w wr [m, mb] ∧ ∃ g', GSys w0 wr m mb g' ∧ Wide g g') (fun v _ => 10 - (intOf v).toNat)
        case atStart => exact ⟨2, by omega, by omega, rfl, hM, g', h2, hw⟩
        case round =>
          clear h2 hM hw
          obtain ⟨f, hf2, hf10, rfl, hM, g', h, hw⟩ := hrel
          by_cases hf : f < 10
          · have hmay : mayA 8 t f = true := by
              simp [mayA, roomAt, roomF]
              omega
            go_wp2_with fail
            refine (of_any wr t f).mono ?_
            rintro e w1 ⟨rfl, hM1⟩
            replace h := h.keep0 hM1
            replace hM := hM.call hM1 (by simp)
            clear hM1
            go_wp2_with fail
            refine (gsys_store h 8 t f was s0 S1.out hmay).mono ?_
            rintro e w2 ⟨rfl, h2, hM2⟩
            replace hM := hM.call hM2 (fun c hc => .inl hc)
            replace hw := hw.put t f was (by omega) (by omega)
            clear h hM2
            go_wp2_with fail
            exact ⟨⟨f + 1, by omega, by omega, by go_num, hM, _, h2, hw⟩, by simp [intOf]; omega⟩
          · obtain rfl : f = 10 := by omega
            go_wp2_with fail
            exact ⟨⟨t + 1, by omega, by go_num, hM, g', h, hw⟩, by simp [intOf]; omega⟩
    · obtain rfl : t = 16 := by omega
      go_wp2_with fail
      refine (joined_room h (hst.same hw) o o0 o1 hP hs).mono ?_
      rintro e w1 ⟨rfl, h1, hM1⟩
      replace hM := hM.call hM1 (fun c hc => .inl hc)
      clear h hM1
      go_wp2_with fail
      go_ret3
      exact ⟨rfl, h1, hM⟩

end Go.Proofs.YtghkdkdlbkmicaaDoor.law10
