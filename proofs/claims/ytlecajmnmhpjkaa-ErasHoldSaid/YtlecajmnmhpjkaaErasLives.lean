/- Layer 17's example: what 'lives' answers; what one alone does. -/
import Derived.Test.YtlecajmnmhpjkaaErasMay
namespace Go.Proofs.Ytlecajmnmhpjkaa.law17
open Go.RowKit

theorem word_any (w0 w : World) (m mb : Nat) (σ : MS) (t f : Int) (h : MSys w0 w m mb σ) :
    Calls Try.prog 13 #[.pointer (some ⟨m, 0, none⟩), .int .i64 t, .int .i64 f] w fun e w' =>
      ∃ σ', e = .returned (.int .u64 (σ.g 8 t f)) ∧ MSys w0 w' m mb σ' ∧ σ'.g = σ.g ∧ Mod w w' [m] := by
  go_enter Try.func13, Try.ntmps13
  go_wp2_with fail
  refine (msys_load h 8 t f).mono ?_
  rintro e w1 ⟨rfl, h1, hM⟩
  go_wp2
  go_ret
  exact ⟨_, rfl, h1, rfl, hM⟩

def entObj (t x : Int) : Nat → Obj
  | 0 => enterO 3 t 0
  | 1 => enterO 2 t x
  | 2 => enterO 1 t x
  | _ => enterO 0 t x
def entMem (σ : MS) (t x : Int) : Nat → MS
  | 0 => σ
  | 1 => σ.load 2 0 0
  | 2 => (σ.load 2 0 0).store 8 t 4 x
  | _ => ((σ.load 2 0 0).store 8 t 4 x).store 8 t 5 x

set_option maxRecDepth 100000 in
set_option maxHeartbeats 1000000 in
/-- One alone enters. -/
theorem entered_any (w0 w : World) (m mb : Nat) (σ : MS) (t : Int) (t0 : 0 ≤ t) (t1 : t < 16) (h : MSys w0 w m mb σ) :
    Calls Try.prog 8 #[.pointer (some ⟨m, 0, none⟩), .int .i64 t] w fun e w' =>
      e = .returned (.int .u64 (IntKind.u64.wrap (σ.g 2 0 0 + 1))) ∧ MSys w0 w' m mb (((σ.load 2 0 0).store 8 t 4 (IntKind.u64.wrap (σ.g 2 0 0 + 1))).store 8 t 5 (IntKind.u64.wrap (σ.g 2 0 0 + 1))) ∧ Mod w w' [m, mb] := by
  have hl := h.mem.lt
  have hlb := h.mem.ltb
  have hsz := h.mod.size
  have hx := wrap_u64 (σ.g 2 0 0 + 1)
  have hx0 := hx.1
  have HX := Lib.hid hx.2
  clear hx
  obtain ⟨b, hb⟩ : ∃ b, b = w.heap.size := ⟨_, rfl⟩
  go_enter Try.func8, Try.ntmps8
  go_wp2_with fail
  refine (newEnter_any w t t0 t1).mono ?_
  rintro e w1 ⟨rfl, rfl⟩
  rw [← hb]
  have hO := Has.new_at w (enterO 3 t 0) b hb
  have hM0 : Mod w (w.alloc (enterO 3 t 0)) [] := (Mod.refl _ _).alloc _
  have hm0 := h.mem.mod hM0 (by simp) (by simp)
  generalize w.alloc (enterO 3 t 0) = w1 at hO hM0 hm0 ⊢
  have HB := Lib.hid hb
  clear hb
  have hbm : b ≠ m := by have := HB.out; omega
  have hbmb : b ≠ mb := by have := HB.out; omega
  have hblo : w.heap.size ≤ b := by have := HB.out; omega
  generalize hxx : IntKind.u64.wrap (σ.g 2 0 0 + 1) = x at *
  have HXX := Lib.hid hxx
  clear hxx
  go_wp2_with fail
  go_loopw [6] (fun v wr => ∃ j : Nat, j ≤ 3 ∧ v = .int .i64 j ∧ Has wr b (entObj t x j) ∧ MemAt wr m mb (entMem σ t x j) ∧ Mod w wr [m, mb]) (fun v _ => 3 - (intOf v).toNat)
  case atStart => exact ⟨0, by omega, rfl, hO, hm0, hM0.wider (by simp)⟩
  case round =>
    clear hO hM0 hm0
    obtain ⟨j, hj, rfl, hO, hm, hM⟩ := hrel
    have key : ∀ (S : List Nat) (w2 : World), Mod wr w2 S → (∀ c ∈ S, c = m ∨ c = mb ∨ c = b) → Mod w w2 [m, mb] := fun S w2 h1 h2 => hM.call h1 (fun c hc => by
      rcases h2 c hc with e | e | e
      · exact .inl (by simp [e])
      · exact .inl (by simp [e])
      · exact .inr (by omega))
    have KEY := Lib.hid key
    clear key
    rcases (show j = 0 ∨ j = 1 ∨ j = 2 ∨ j = 3 by omega) with rfl | rfl | rfl | rfl
    · go_wp2_with fail
      refine (enterStep_first wr b m mb σ t 0 hO hm hbm hbmb).mono ?_
      rintro e w2 ⟨rfl, hM2, hm2, hO2⟩
      rw [HXX.out] at hO2
      have hMf := KEY.out _ _ hM2 (by simp)
      clear hO hm hM hM2
      go_wp2_with fail
      exact ⟨⟨1, by omega, rfl, hO2, hm2, hMf⟩, by simp [intOf]⟩
    · go_wp2_with fail
      refine (enterStep_second wr b m mb (σ.load 2 0 0) t x t0 t1 hx0 HX hO hm hbm hbmb).mono ?_
      rintro e w2 ⟨rfl, hM2, hm2, hO2⟩
      have hMf := KEY.out _ _ hM2 (by simp)
      clear hO hm hM hM2
      go_wp2_with fail
      exact ⟨⟨2, by omega, rfl, hO2, hm2, hMf⟩, by simp [intOf]⟩
    · go_wp2_with fail
      refine (enterStep_third wr b m mb ((σ.load 2 0 0).store 8 t 4 x) t x t0 t1 hx0 HX hO hm hbm hbmb).mono ?_
      rintro e w2 ⟨rfl, hM2, hm2, hO2⟩
      have hMf := KEY.out _ _ hM2 (by simp)
      clear hO hm hM hM2
      go_wp2_with fail
      exact ⟨⟨3, by omega, rfl, hO2, hm2, hMf⟩, by simp [intOf]⟩
    · go_wp2_with fail
      refine (enterGot_over wr b t x hO).mono ?_
      rintro e w2 ⟨rfl, rfl⟩
      go_wp2
      go_ret
      have h1 := h.lo
      have h2 := h.lob
      rw [HXX.out]
      exact ⟨rfl, h.next hM (by intro c hc; simp at hc; omega) hm, hM⟩

theorem store_congr {σ σ' : MS} (h : σ'.g = σ.g) (k a f v : Int) : (σ'.store k a f v).g = (σ.store k a f v).g := by
  unfold MS.store
  split
  · unfold MS.put
    simp only [h]
  · exact h

def v3 : MS := ((MS.new.store 2 0 0 4).store 5 0 0 1).store 8 1 0 9
def v4 : MS := ((v3.load 2 0 0).store 8 1 4 5).store 8 1 5 5
def v5 : MS := v4.store 2 0 0 6
def v6 : MS := v5.store 8 1 5 7

set_option maxRecDepth 100000 in
set_option maxHeartbeats 4000000 in
theorem lives_any (w0 w : World) (hw0 : Mod w0 w []) :
    Calls Try.prog 5 #[] w fun e w' => e = .returned (.bool true) ∧ Mod w0 w' [] := by
  go_enter Try.func5, Try.ntmps5
  go_wp2_with fail
  refine (msys_new hw0).mono ?_
  rintro e w1 ⟨m, mb, rfl, h, hM, g1, g2⟩
  clear hM g1 g2
  obtain ⟨A, hA⟩ : ∃ A, A = w1.heap.size := ⟨_, rfl⟩
  have HA := Lib.hid hA
  have hAm : A ≠ m := by have := h.mem.lt; omega
  have hAmb : A ≠ mb := by have := h.mem.ltb; omega
  go_wp2_with fail
  rw [← hA]
  have hC := Has.new_at w1 (.cells #[.int .u8 2, .int .i64 0, .int .i64 0] 34) A hA
  have h := h.keep0 ((Mod.refl _ []).alloc (.cells #[.int .u8 2, .int .i64 0, .int .i64 0] 34))
  generalize w1.alloc (.cells #[.int .u8 2, .int .i64 0, .int .i64 0] 34) = w2 at hC h ⊢
  clear hA
  refine (msys_store h 2 0 0 4 (by omega) (by omega) (by decide)).mono ?_
  rintro e w3 ⟨rfl, h3, hM3⟩
  replace hC := hC.mod hM3 (by simp; omega)
  clear h hM3
  go_wp2_with fail
  refine (msys_store h3 5 0 0 1 (by omega) (by omega) (by decide)).mono ?_
  rintro e w4 ⟨rfl, h4, hM4⟩
  replace hC := hC.mod hM4 (by simp; omega)
  clear h3 hM4
  go_wp2_with fail
  refine (msys_store h4 8 1 0 9 (by omega) (by omega) (by decide)).mono ?_
  rintro e w5 ⟨rfl, h5, hM5⟩
  replace hC := hC.mod hM5 (by simp; omega)
  clear h4 hM5
  go_wp2_with fail
  refine (entered_any w0 w5 m mb _ 1 (by omega) (by omega) h5).mono ?_
  rintro e w6 ⟨rfl, h6, hM6⟩
  replace hC := hC.mod hM6 (by simp; omega)
  rw [show IntKind.u64.wrap ((((MS.new.store 2 0 0 4).store 5 0 0 1).store 8 1 0 9).g 2 0 0 + 1) = 5 by kernel_rfl] at h6 ⊢
  clear h5 hM6
  go_wp2_with fail
  refine (word_any w0 w6 m mb v4 1 4 h6).mono ?_
  rintro e w7 ⟨σ7, rfl, h7, hg7, hM7⟩
  replace hC := hC.mod hM7 (by simp; omega)
  rw [show v4.g 8 1 4 = 5 by kernel_rfl]
  have hg7' := store_congr hg7 2 0 0 6
  have HG7 := Lib.hid hg7'
  clear h6 hM7 hg7 hg7'
  have c_hC_0 := hC.cell 0; have c_hC_1 := hC.cell 1; have c_hC_2 := hC.cell 2; simp only [getRules] at c_hC_0 c_hC_1 c_hC_2
  go_wp2_with fail
  refine (msys_store h7 2 0 0 6 (by omega) (by omega) (by decide)).mono ?_
  rintro e w8 ⟨rfl, h8, hM8⟩
  clear hC c_hC_0 c_hC_1 c_hC_2 h7 hM8
  generalize σ7.store 2 0 0 6 = σ8 at h8 HG7
  go_wp2_with fail
  refine (newRaise_any w8 1 5 (by omega) (by omega)).mono ?_
  rintro e w9 ⟨rfl, rfl⟩
  obtain ⟨b, hb⟩ : ∃ b, b = w8.heap.size := ⟨_, rfl⟩
  have hbm : b ≠ m := by have := h8.mem.lt; omega
  have hbmb : b ≠ mb := by have := h8.mem.ltb; omega
  have hblo : w0.heap.size ≤ b := by have := h8.mod.size; omega
  rw [← hb]
  have hO := Has.new_at w8 (raiseO 2 1 5 0 false) b hb
  replace h8 := h8.keep0 ((Mod.refl _ []).alloc (raiseO 2 1 5 0 false))
  generalize w8.alloc (raiseO 2 1 5 0 false) = w9 at hO h8 ⊢
  clear hb
  go_wp2_with fail
  refine (raiseStep_first w9 b m mb σ8 1 5 0 hO h8.mem hbm hbmb).mono ?_
  rintro e w10 ⟨rfl, hM10, hm10, hO10⟩
  rw [show σ8.g 2 0 0 = 6 by rw [HG7.out]; kernel_rfl] at hO10 ⊢
  rw [show IntKind.u64.wrap (6 + 1) = 7 by kernel_rfl] at hO10 ⊢
  have h10 := h8.next hM10 (by intro c hc; have := h8.lo; simp at hc; omega) hm10
  have hO10' : Has w10 b (raiseO 1 1 5 7 false) := hO10
  clear hO h8 hM10 hm10 hO10
  go_wp2_with fail
  refine (raiseStep_last w10 b m mb (σ8.load 2 0 0) 1 5 7 false (by omega) (by omega) (by omega) (Lib.hid (by omega)) hO10' h10.mem hbm hbmb).mono ?_
  rintro e w11 ⟨rfl, hM11, hm11, hO11⟩
  have h11 := h10.next hM11 (by intro c hc; have := h10.lo; have := h10.lob; simp at hc; omega) hm11
  have hg11 : ((σ8.load 2 0 0).store 8 1 5 7).g = v6.g := store_congr (σ := v5) HG7.out 8 1 5 7
  have HG11 := Lib.hid hg11
  clear hO10' h10 hM11 hm11 hg11
  generalize (σ8.load 2 0 0).store 8 1 5 7 = σ11 at h11 HG11
  go_wp2_with fail
  refine (raiseGot_any w11 b _ _ _ _ _ hO11).mono ?_
  rintro e w12 ⟨rfl, hM12⟩
  replace h11 := h11.keep0 hM12
  clear hO11 hM12
  go_wp2_with fail
  refine (snap_any w0 w12 m mb σ11 h11 (by rw [HG11.out]; kernel_rfl)).mono ?_
  rintro e w13 ⟨s, σ13, rfl, hS, hslo, h13, hg13, hM13⟩
  rw [HG11.out] at hS
  clear h11 hg13 hM13
  go_wp2_with fail
  obtain ⟨D, hD⟩ : ∃ D, D = w13.heap.size := ⟨_, rfl⟩
  rw [← hD]
  have hMD : Mod w13 (w13.alloc (.cells #[.slice (some ⟨s, 0, none⟩) 4 4, .int .u64 0] 44)) [] := (Mod.refl _ _).alloc _
  have hC := Has.new_at w13 (.cells #[.slice (some ⟨s, 0, none⟩) 4 4, .int .u64 0] 44) D hD
  replace hS := hS.mod hMD (by simp)
  replace h13 := h13.keep0 hMD
  generalize w13.alloc (.cells #[.slice (some ⟨s, 0, none⟩) 4 4, .int .u64 0] 44) = w14 at hC hS h13 ⊢
  clear hD hMD
  have a1 : anyHeld v6.g 6 9 = true := by kernel_rfl
  have a2 : anyHeld v6.g 7 9 = false := by kernel_rfl
  have a3 : anyHeld v6.g 0 3 = false := by kernel_rfl
  have A1 := Lib.hid a1
  have A2 := Lib.hid a2
  have A3 := Lib.hid a3
  clear a1 a2 a3
  refine (eMay_any w14 s v6.g _ _ _ _ _ 6 9 hS).mono ?_
  rintro e w15 ⟨rfl, hM15⟩
  rw [A1.out]
  replace hC := hC.mod hM15 (by simp)
  replace hS := hS.mod hM15 (by simp)
  replace h13 := h13.keep0 hM15
  clear hM15
  have c_hC_0 := hC.cell 0; have c_hC_1 := hC.cell 1; simp only [getRules] at c_hC_0 c_hC_1
  go_wp2_with fail
  refine (eMay_any w15 s v6.g _ _ _ _ _ 7 9 hS).mono ?_
  rintro e w16 ⟨rfl, hM16⟩
  rw [A2.out]
  replace hC := hC.mod hM16 (by simp)
  replace hS := hS.mod hM16 (by simp)
  replace h13 := h13.keep0 hM16
  clear hM16 c_hC_0 c_hC_1
  have c_hC_0 := hC.cell 0; have c_hC_1 := hC.cell 1; simp only [getRules] at c_hC_0 c_hC_1
  go_wp2_with fail
  refine (eMay_any w16 s v6.g _ _ _ _ _ 0 3 hS).mono ?_
  rintro e w17 ⟨rfl, hM17⟩
  rw [A3.out]
  replace h13 := h13.keep0 hM17
  clear hM17 c_hC_0 c_hC_1 hS hC
  go_wp2_with fail
  go_ret
  exact ⟨rfl, h13.mod⟩

end Go.Proofs.Ytlecajmnmhpjkaa.law17
