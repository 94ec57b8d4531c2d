/- May an entry go by its eras? -/
import Derived.Test.YtlecajmnmhpjkaaSnapTake
namespace Go.Proofs.Ytlecajmnmhpjkaa
open Go.RowKit

theorem SnapAt.mod {w w' : World} {s : Nat} {g : Int → Int → Int → Int} {S : List Nat} (h : SnapAt w s g) (hM : Mod w w' S) (hS : s ∉ S) : SnapAt w' s g := by
  obtain ⟨arr, ty, h1, h2⟩ := h
  exact ⟨arr, ty, h1.mod hM hS, h2⟩

/-- Does thread t of a snapshot hold an entry born at b, retired at e? -/
def heldBy (g : Int → Int → Int → Int) (b e : Int) (t : Nat) : Bool :=
  !(thrW g t 4 == 0) && !(thrW g t 5 == 0) && decide (IntKind.u64.wrap (thrW g t 4 - 1) ≤ e) && decide (b ≤ IntKind.u64.wrap (thrW g t 5 - 1))
def anyHeld (g : Int → Int → Int → Int) (b e : Int) : Bool := (List.range 4).any (heldBy g b e)

set_option maxRecDepth 100000 in
set_option maxHeartbeats 2000000 in
theorem may1_any (w : World) (E : Nat) (r0 r1 r2 b ep e : Value) (bi ei : Int) (hb : b = .int .u64 bi) (he : e = .int .u64 ei) (hE : Has w E (.cells #[r0, r1, r2, b, ep, e] 28)) (x0 x1 x2 x3 x6 x7 x8 x9 : Int) (lo hi : Int) :
    Calls Try.prog 36 #[.agg #[.int .u64 x0, .int .u64 x1, .int .u64 x2, .int .u64 x3, .int .u64 lo, .int .u64 hi, .int .u64 x6, .int .u64 x7, .int .u64 x8, .int .u64 x9], .pointer (some ⟨E, 0, none⟩)] w fun en w' =>
      en = .returned (.bool (!(lo == 0) && !(hi == 0) && decide (IntKind.u64.wrap (lo - 1) ≤ ei) && decide (bi ≤ IntKind.u64.wrap (hi - 1)))) ∧ Mod w w' [] := by
  subst hb he
  have hl := hE.lt
  have c3 := hE.cell 3
  have c5 := hE.cell 5
  simp only [getRules] at c3 c5
  go_enter Try.func36, Try.ntmps36
  go_wp2_with fail
  all_goals
    go_ret
    exact ⟨by first | (simp_all [bne]; done) | (simp_all [bne]; intros; omega), (Mod.refl _ _).alloc _⟩

set_option maxRecDepth 100000 in
set_option maxHeartbeats 1000000 in
theorem indexThreads (w : World) (s E : Nat) (g : Int → Int → Int → Int) (r0 r1 r2 ep : Value) (bi ei : Int) (hS : SnapAt w s g) (hE : Has w E (.cells #[r0, r1, r2, .int .u64 bi, ep, .int .u64 ei] 28)) :
    Calls Try.prog 46 #[.slice (some ⟨s, 0, none⟩) 4 4, .func (.func 36) #[] #[.pointer (some ⟨E, 0, none⟩)]] w fun en w' =>
      ∃ r, en = .returned (.int .i64 r) ∧ decide (0 ≤ r) = anyHeld g bi ei ∧ Mod w w' [] := by
  obtain ⟨arr, ty, hA, hAt⟩ := hS
  go_enter Try.func46, Try.ntmps46
  go_wp2_with fail
  go_loopw [8] (fun v wr => ∃ k : Nat, k ≤ 4 ∧ v = .int .i64 k ∧ Mod w wr [] ∧ (List.range k).any (heldBy g bi ei) = false) (fun v _ => 4 - (intOf v).toNat)
  case atStart => exact ⟨0, by omega, rfl, Mod.refl _ _, rfl⟩
  case round =>
    obtain ⟨k, hk, rfl, hM, hany⟩ := hrel
    by_cases hlt : k < 4
    · have hc : ∀ j, j < 10 → wr.cell? ⟨s, k * 10 + j, none⟩ = some (.int .u64 (thrW g k j)) := by
        intro j hj
        have h1 := (hA.mod hM (by simp)).cell (k * 10 + j)
        rw [hAt _ (by omega), show (k * 10 + j) / 10 = k by omega, show (k * 10 + j) % 10 = j by omega] at h1
        exact h1
      have c0 : wr.cell? ⟨s, k * 10, none⟩ = _ := hc 0 (by omega)
      have c1 := hc 1 (by omega)
      have c2 := hc 2 (by omega)
      have c3 := hc 3 (by omega)
      have c4 := hc 4 (by omega)
      have c5 := hc 5 (by omega)
      have c6 := hc 6 (by omega)
      have c7 := hc 7 (by omega)
      have c8 := hc 8 (by omega)
      have c9 := hc 9 (by omega)
      have hk4 : (k : Int) < 4 := by omega
      have hE2 := hE.mod hM (by simp)
      have hrange : (List.range (k + 1)).any (heldBy g bi ei) = ((List.range k).any (heldBy g bi ei) || heldBy g bi ei k) := by
        rw [List.range_succ, List.any_append]
        simp
      have HR := Lib.hid hrange
      have HY := Lib.hid hany
      clear hc hrange hany
      go_wp2_with fail
      refine (may1_any wr E r0 r1 r2 _ ep _ bi ei rfl rfl hE2 _ _ _ _ _ _ _ _ (thrW g k 4) (thrW g k 5)).mono ?_
      rintro en w2 ⟨rfl, hM2⟩
      have hhb : heldBy g bi ei k = (!(thrW g k 4 == 0) && !(thrW g k 5 == 0) && decide (IntKind.u64.wrap (thrW g k 4 - 1) ≤ ei) && decide (bi ≤ IntKind.u64.wrap (thrW g k 5 - 1))) := rfl
      rw [← hhb]
      have hM3 := hM.call hM2 (by simp)
      clear hhb c0 c1 c2 c3 c4 c5 c6 c7 c8 c9
      cases hh : heldBy g bi ei k
      · rw [hh] at HR
        go_wp2_with fail
        exact ⟨⟨k + 1, by omega, by go_num, hM3, by rw [HR.out, HY.out]; rfl⟩, by simp [intOf]; omega⟩
      · have HH := Lib.hid hh
        go_wp2_with fail
        go_ret
        refine ⟨k, rfl, ?_, hM3⟩
        rw [show decide (0 ≤ (k : Int)) = true by simp]
        symm
        unfold anyHeld
        rw [List.any_eq_true]
        exact ⟨k, by simp; omega, HH.out⟩
    · obtain rfl : k = 4 := by omega
      go_wp2_with fail
      go_ret
      exact ⟨-1, rfl, by unfold anyHeld; rw [hany]; rfl, hM⟩

set_option maxRecDepth 100000 in
theorem containsThreads (w : World) (s E : Nat) (g : Int → Int → Int → Int) (r0 r1 r2 ep : Value) (bi ei : Int) (hS : SnapAt w s g) (hE : Has w E (.cells #[r0, r1, r2, .int .u64 bi, ep, .int .u64 ei] 28)) :
    Calls Try.prog 35 #[.slice (some ⟨s, 0, none⟩) 4 4, .func (.func 36) #[] #[.pointer (some ⟨E, 0, none⟩)]] w fun en w' =>
      en = .returned (.bool (anyHeld g bi ei)) ∧ Mod w w' [] := by
  go_enter Try.func35, Try.ntmps35
  go_wp2_with fail
  refine (indexThreads w s E g r0 r1 r2 ep bi ei hS hE).mono ?_
  rintro en w2 ⟨r, rfl, hr, hM⟩
  have HR := Lib.hid hr
  clear hr
  go_wp2
  go_ret
  exact ⟨by rw [← HR.out]; rfl, hM⟩

set_option maxRecDepth 100000 in
set_option maxHeartbeats 1000000 in
/-- It may, unless a thread of the snapshot holds it. -/
theorem eMay_any (w : World) (s : Nat) (g : Int → Int → Int → Int) (r0 r1 r2 ep x : Value) (bi ei : Int) (hS : SnapAt w s g) :
    Calls Try.prog 14 #[.agg #[r0, r1, r2, .int .u64 bi, ep, .int .u64 ei], .agg #[.slice (some ⟨s, 0, none⟩) 4 4, x]] w fun en w' =>
      en = .returned (.bool (!anyHeld g bi ei)) ∧ Mod w w' [] := by
  go_enter Try.func14, Try.ntmps14
  go_wp2_with fail
  have hM : Mod w ((w.alloc (.cells #[r0, r1, r2, .int .u64 bi, ep, .int .u64 ei] 28)).alloc (.cells #[.slice (some ⟨s, 0, none⟩) 4 4, x] 44)) [] := ((Mod.refl _ _).alloc _).alloc _
  have hE := (Has.new w (.cells #[r0, r1, r2, .int .u64 bi, ep, .int .u64 ei] 28)).alloc (.cells #[.slice (some ⟨s, 0, none⟩) 4 4, x] 44)
  obtain ⟨arr, ty, hA, hAt⟩ := hS
  have hS2 : SnapAt ((w.alloc (.cells #[r0, r1, r2, .int .u64 bi, ep, .int .u64 ei] 28)).alloc (.cells #[.slice (some ⟨s, 0, none⟩) 4 4, x] 44)) s g := ⟨arr, ty, hA.mod hM (by simp), hAt⟩
  go_wp2_with fail
  refine (containsThreads _ s w.heap.size g r0 r1 r2 ep bi ei hS2 hE).mono ?_
  rintro en w2 ⟨rfl, hM2⟩
  go_wp2
  go_ret
  exact ⟨rfl, hM.call hM2 (by simp)⟩

end Go.Proofs.Ytlecajmnmhpjkaa
