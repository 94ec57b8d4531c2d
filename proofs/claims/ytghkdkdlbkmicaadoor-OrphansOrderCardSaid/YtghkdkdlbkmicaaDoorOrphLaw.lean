/- Layer 12's law: its helpers. -/
import Derived.Test.YtghkdkdlbkmicaaDoorNewGive
import Derived.Test.YtghkdkdlbkmicaaDoorTakeGot
import Derived.Test.YtghkdkdlbkmicaaDoorGSys
import Derived.Deep.RegionHeld3
namespace Go.Proofs.YtghkdkdlbkmicaaDoor
open Go.RowKit

section
variable {w0 w : World} {m mb b : Nat} {σ : MS} (h : Sys w0 w m mb σ)
include h
theorem sys_giveStep {v : Value} {g : GiveS} (hok : g.Ok) (hg : GiveAt w b v g) (lo : w0.heap.size ≤ b) (n1 : b ≠ m) (n2 : b ≠ mb) (n5 : v.ownBlock ≠ some m) (n6 : v.ownBlock ≠ some mb) :
    Calls Tryd.prog 32 #[.pointer (some ⟨b, 0, none⟩), .pointer (some ⟨m, 0, none⟩)] w fun e w' =>
      e = .returned (.bool ((g.step σ).1.line == 0)) ∧ Sys w0 w' m mb (g.step σ).2 ∧ GiveAt w' b v (g.step σ).1 ∧ Mod w w' [m, mb, b] := by
  have := h.fields.lt
  refine (giveStep_any w h.fieldsAt b m mb σ v g hok hg h.mem n1 n2 n5 n6 h.g1 (by omega)).mono ?_
  rintro e w' ⟨he, hM, hm, hg'⟩
  refine ⟨he, h.next hM ?_ hm, hg', hM⟩
  have := h.lo
  have := h.lob
  intro c hc
  simp at hc
  omega
/-- What a Take's step leaves in a law. -/
def TStepped (w0 w : World) (m mb b : Nat) (v : Value) (t' : TakeS) (σ' : MS) (e : Ending) (w' : World) : Prop :=
  e = .returned (.bool (t'.line == 0)) ∧ Sys w0 w' m mb σ' ∧ Mod w w' (m :: mb :: b :: v.ownBlock.toList) ∧ ∃ v', TakeAt w' b v' t' ∧ (∀ y, v'.ownBlock = some y → v.ownBlock = some y ∨ w.heap.size ≤ y)
theorem sys_takeStep {v : Value} {t : TakeS} (hok : t.Ok) (ht : TakeAt w b v t) (lo : w0.heap.size ≤ b) (n1 : b ≠ m) (n2 : b ≠ mb) (n5 : v.ownBlock ≠ some m) (n6 : v.ownBlock ≠ some mb) (hv : ∀ y, v.ownBlock = some y → w0.heap.size ≤ y) :
    Calls Tryd.prog 24 #[.pointer (some ⟨b, 0, none⟩), .pointer (some ⟨m, 0, none⟩)] w (TStepped w0 w m mb b v (t.step σ).1 (t.step σ).2) := by
  have := h.fields.lt
  refine (takeStep_any w h.fieldsAt b m mb σ v t hok ht h.mem n1 n2 n5 n6 h.g1 (by omega) h.g2).mono ?_
  rintro e w' ⟨he, hM, hm, hg'⟩
  refine ⟨he, h.next hM ?_ hm, hM, hg'⟩
  have := h.lo
  have := h.lob
  intro c hc
  simp at hc
  rcases hc with rfl | rfl | rfl | hc
  · omega
  · omega
  · omega
  · exact hv c hc
end

namespace law12

/-- The entry of a slot, as the law lays its words. -/
def E (s : Int) : Ent6 := ⟨s, s + 3, false, s + 1, s + 5, s + 9⟩
def gof (g : Int → Int → Int → Int) (s : Int) : Int → Int → Int → Int := gput (gput (gput (gput g 9 s 0 (hdrW 2 (s + 3))) 9 s 1 (s + 1)) 9 s 3 (s + 5)) 9 s 4 (s + 9)

theorem at_any (w : World) (sb : Nat) (s f : Int) (h : Has w sb (.cells #[.int .i64 s] 3)) :
    Calls Tryd.prog 57 #[.int .i64 f, .pointer (some ⟨sb, 0, none⟩)] w fun e w' => e = .returned (K 9 s f) ∧ w.alloc (.cells #[.int .u8 9, .int .i64 s, .int .i64 f] 31) = w' := by
  have c_h_0 := h.cell 0; simp only [getRules] at c_h_0
  have hl := h.lt
  go_enter Tryd.func57, Tryd.ntmps57
  go_wp2
  refine bodyPost_ret (v := K 9 s f) ?_ rfl ⟨rfl, rfl⟩
  simp [results, Tryd.results57, go_sem, K]

set_option maxRecDepth 100000 in
set_option maxHeartbeats 2000000 in
theorem of_any {w0 w : World} {m mb : Nat} {g : Int → Int → Int → Int} (h : GSys w0 w m mb g) (s : Int) (s0 : 0 ≤ s) (s1 : s < 256) :
    Calls Tryd.prog 20 #[.pointer (some ⟨m, 0, none⟩), .int .i64 s] w fun e w' => e = .returned (E s).val ∧ GSys w0 w' m mb (gof g s) ∧ Mod w w' [m, mb] := by
  have hs1 : IntKind.u32.wrap s = s := by rw [IntKind.wrap_u32]; omega
  have hs2 : IntKind.u64.wrap s = s := by rw [wrap_u64_eq]; omega
  have e1 : IntKind.u32.wrap (s + 3) = s + 3 := by rw [IntKind.wrap_u32]; omega
  have e2 : IntKind.u64.wrap (s + 1) = s + 1 := by rw [wrap_u64_eq]; omega
  have e3 : IntKind.u64.wrap (s + 5) = s + 5 := by rw [wrap_u64_eq]; omega
  have e4 : IntKind.u64.wrap (s + 9) = s + 9 := by rw [wrap_u64_eq]; omega
  go_enter Tryd.func20, Tryd.ntmps20
  go_wp2_with fail
  obtain ⟨sb, hsbe⟩ : ∃ sb, sb = w.heap.size := ⟨_, rfl⟩
  obtain ⟨rb, hrbe⟩ : ∃ rb, rb = w.heap.size + 1 := ⟨_, rfl⟩
  obtain ⟨eb, hebe⟩ : ∃ eb, eb = w.heap.size + 1 + 1 := ⟨_, rfl⟩
  have hsb0 : Has (((w.alloc (.cells #[.int .i64 s] 3)).alloc (.cells #[.int .i64 0, .int .u32 0, .bool false, .int .u64 0, .int .u64 0, .int .u64 0] 50)).alloc (.cells #[.int .i64 s, .int .u32 (s + 3), .bool false, .int .u64 (s + 1), .int .u64 (s + 5), .int .u64 (s + 9)] 50)) sb (.cells #[.int .i64 s] 3) := ((Has.new_at _ _ _ hsbe).alloc _).alloc _
  have hrb0 : Has (((w.alloc (.cells #[.int .i64 s] 3)).alloc (.cells #[.int .i64 0, .int .u32 0, .bool false, .int .u64 0, .int .u64 0, .int .u64 0] 50)).alloc (.cells #[.int .i64 s, .int .u32 (s + 3), .bool false, .int .u64 (s + 1), .int .u64 (s + 5), .int .u64 (s + 9)] 50)) rb (.cells #[.int .i64 0, .int .u32 0, .bool false, .int .u64 0, .int .u64 0, .int .u64 0] 50) := (Has.new_at _ _ _ (by simpa using hrbe)).alloc _
  have heb0 : Has (((w.alloc (.cells #[.int .i64 s] 3)).alloc (.cells #[.int .i64 0, .int .u32 0, .bool false, .int .u64 0, .int .u64 0, .int .u64 0] 50)).alloc (.cells #[.int .i64 s, .int .u32 (s + 3), .bool false, .int .u64 (s + 1), .int .u64 (s + 5), .int .u64 (s + 9)] 50)) eb (.cells #[.int .i64 s, .int .u32 (s + 3), .bool false, .int .u64 (s + 1), .int .u64 (s + 5), .int .u64 (s + 9)] 50) := Has.new_at _ _ _ (by simpa using hebe)
  have hMW0 : Mod w (((w.alloc (.cells #[.int .i64 s] 3)).alloc (.cells #[.int .i64 0, .int .u32 0, .bool false, .int .u64 0, .int .u64 0, .int .u64 0] 50)).alloc (.cells #[.int .i64 s, .int .u32 (s + 3), .bool false, .int .u64 (s + 1), .int .u64 (s + 5), .int .u64 (s + 9)] 50)) [m, mb] := (((Mod.refl _ _).alloc _).alloc _).alloc _
  have hs0 := h.keep0 (((((Mod.refl w []).alloc (.cells #[.int .i64 s] 3)).alloc (.cells #[.int .i64 0, .int .u32 0, .bool false, .int .u64 0, .int .u64 0, .int .u64 0] 50)).alloc (.cells #[.int .i64 s, .int .u32 (s + 3), .bool false, .int .u64 (s + 1), .int .u64 (s + 5), .int .u64 (s + 9)] 50)))
  have hlo := h.lo
  have hbm : sb ≠ m ∧ sb ≠ mb ∧ eb ≠ m ∧ eb ≠ mb ∧ rb ≠ m ∧ rb ≠ mb ∧ rb ≠ eb ∧ rb ≠ sb ∧ eb ≠ sb := by omega
  have hrlo : w.heap.size ≤ rb := by omega
  rw [← hebe, ← hrbe, ← hsbe]
  clear hsbe hrbe hebe
  generalize ((w.alloc (.cells #[.int .i64 s] 3)).alloc (.cells #[.int .i64 0, .int .u32 0, .bool false, .int .u64 0, .int .u64 0, .int .u64 0] 50)).alloc (.cells #[.int .i64 s, .int .u32 (s + 3), .bool false, .int .u64 (s + 1), .int .u64 (s + 5), .int .u64 (s + 9)] 50) = W0 at hsb0 hrb0 heb0 hMW0 hs0 ⊢
  have H2 := Lib.hid (hdrW_range (s := 2) (g := s + 3) (by omega) (by omega) (by omega) (by omega))
  have V3 := Lib.hid (show 0 ≤ s + 1 ∧ s + 1 < 18446744073709551616 by omega)
  have V4 := Lib.hid (show 0 ≤ s + 5 ∧ s + 5 < 18446744073709551616 by omega)
  have V5 := Lib.hid (show 0 ≤ s + 9 ∧ s + 9 < 18446744073709551616 by omega)
  have hf : FieldsAt w := by
    obtain ⟨σ, h, _⟩ := h
    exact h.fieldsAt
  have hgm : 0 ≠ m ∧ 0 ≠ mb := by
    obtain ⟨σ, h, _⟩ := h
    exact ⟨h.g1, h.g2⟩
  clear h hs1 hs2 e1 e2 e3 e4
  -- the word of field 0
  have c1 := hsb0.cell 0
  have c2 := heb0.cell 1
  simp only [getRules] at c1 c2
  have hsl := hsb0.lt
  have hel := heb0.lt
  have hml := hs0.lo
  go_region_held3 (fun W => W.cell? ⟨eb, 1, none⟩ = some (.int .u32 (s + 3)) ∧ W.cell? ⟨sb, 0, none⟩ = some (.int .i64 s))
    (first | exact ⟨by assumption, by assumption⟩ | (simp [go_sem, c1, c2, hsl, hel]))
    (first | (go_at_call 57; go_must (refine (at_any _ sb s 0 (hsb0.mod (S := []) (by (repeat (first | with_reducible (first | exact Mod.refl _ _ | apply Mod.drewN | apply Mod.drew | apply Mod.alloc | refine Mod.setCell ?_ ?_ _ | refine Mod.put ?_ ?_ _) | focus (simp; done) | focus (simp; omega)))) (by simp))).mono ?_; rintro e w1 ⟨rfl, rfl⟩)) | (go_at_call 58; go_must (refine (header_any _ (hf.mod (by (repeat (first | with_reducible (first | exact hMW0 | exact Mod.refl _ _ | apply Mod.drewN | apply Mod.drew | apply Mod.alloc | refine Mod.setCell ?_ ?_ _ | refine Mod.put ?_ ?_ _ | refine Mod.call ?_ hMW0 ?_) | focus (simp; done) | focus (simp; omega)))) (by simp; omega)) 2 (s + 3) (by omega) (by omega) (by omega) (by omega)).mono ?_; rintro e w1 ⟨rfl, n1, rfl⟩)) | (go_at_call 11; go_must (refine (gsys_store (hs0.keep0 (by (repeat (first | with_reducible (first | exact Mod.refl _ _ | apply Mod.drewN | apply Mod.drew | apply Mod.alloc | refine Mod.setCell ?_ ?_ _ | refine Mod.put ?_ ?_ _) | focus (simp; done) | focus (simp; omega))))) 9 s 0 (hdrW 2 (s + 3)) H2.out.1 H2.out.2 (mayA_slot ⟨s0, s1⟩ (by omega) (by omega))).mono ?_; rintro e W1 ⟨rfl, hs1, hM1⟩; have hN1 : Mod W0 W1 [m, mb] := (Mod.call (S := [m, mb]) (by (repeat (first | with_reducible (first | exact Mod.refl _ _ | apply Mod.drewN | apply Mod.drew | apply Mod.alloc | refine Mod.setCell ?_ ?_ _ | refine Mod.put ?_ ?_ _) | focus (simp; done) | focus (simp; omega)))) hM1 (fun y hy => .inl hy)); have hsb1 := hsb0.mod hN1 (by simp; omega); have heb1 := heb0.mod hN1 (by simp; omega); have hrb1 := hrb0.mod hN1 (by simp; omega); have k1 := heb1.cell 1; have k2 := hsb1.cell 0; simp only [getRules] at k1 k2; clear c1 c2)))
  have hMW1 := hMW0.call hN1 (fun y hy => .inl hy)
  clear k1 k2 hsl hel hml hsb0 heb0 hrb0 hs0 hM1 hN1 hMW0
  go_wp2_with fail
  -- the word of field 1
  have c1 := hsb1.cell 0
  have c2 := heb1.cell 3
  simp only [getRules] at c1 c2
  have hsl := hsb1.lt
  have hel := heb1.lt
  have hml := hs1.lo
  go_region_held3 (fun W => W.cell? ⟨eb, 3, none⟩ = some (.int .u64 (s + 1)) ∧ W.cell? ⟨sb, 0, none⟩ = some (.int .i64 s))
    (first | exact ⟨by assumption, by assumption⟩ | (simp [go_sem, c1, c2, hsl, hel]))
    (first | (go_at_call 57; go_must (refine (at_any _ sb s 1 (hsb1.mod (S := []) (by (repeat (first | with_reducible (first | exact Mod.refl _ _ | apply Mod.drewN | apply Mod.drew | apply Mod.alloc | refine Mod.setCell ?_ ?_ _ | refine Mod.put ?_ ?_ _) | focus (simp; done) | focus (simp; omega)))) (by simp))).mono ?_; rintro e w1 ⟨rfl, rfl⟩)) | (go_at_call 11; go_must (refine (gsys_store (hs1.keep0 (by (repeat (first | with_reducible (first | exact Mod.refl _ _ | apply Mod.drewN | apply Mod.drew | apply Mod.alloc | refine Mod.setCell ?_ ?_ _ | refine Mod.put ?_ ?_ _) | focus (simp; done) | focus (simp; omega))))) 9 s 1 (s + 1) V3.out.1 V3.out.2 (mayA_slot ⟨s0, s1⟩ (by omega) (by omega))).mono ?_; rintro e W2 ⟨rfl, hs2, hM2⟩; have hN2 : Mod W1 W2 [m, mb] := (Mod.call (S := [m, mb]) (by (repeat (first | with_reducible (first | exact Mod.refl _ _ | apply Mod.drewN | apply Mod.drew | apply Mod.alloc | refine Mod.setCell ?_ ?_ _ | refine Mod.put ?_ ?_ _) | focus (simp; done) | focus (simp; omega)))) hM2 (fun y hy => .inl hy)); have hsb2 := hsb1.mod hN2 (by simp; omega); have heb2 := heb1.mod hN2 (by simp; omega); have hrb2 := hrb1.mod hN2 (by simp; omega); have k1 := heb2.cell 3; have k2 := hsb2.cell 0; simp only [getRules] at k1 k2; clear c1 c2)))
  have hMW2 := hMW1.call hN2 (fun y hy => .inl hy)
  clear k1 k2 hsl hel hml hsb1 heb1 hrb1 hs1 hM2 hN2 hMW1
  go_wp2_with fail
  -- the word of field 3
  have c1 := hsb2.cell 0
  have c2 := heb2.cell 4
  simp only [getRules] at c1 c2
  have hsl := hsb2.lt
  have hel := heb2.lt
  have hml := hs2.lo
  go_region_held3 (fun W => W.cell? ⟨eb, 4, none⟩ = some (.int .u64 (s + 5)) ∧ W.cell? ⟨sb, 0, none⟩ = some (.int .i64 s))
    (first | exact ⟨by assumption, by assumption⟩ | (simp [go_sem, c1, c2, hsl, hel]))
    (first | (go_at_call 57; go_must (refine (at_any _ sb s 3 (hsb2.mod (S := []) (by (repeat (first | with_reducible (first | exact Mod.refl _ _ | apply Mod.drewN | apply Mod.drew | apply Mod.alloc | refine Mod.setCell ?_ ?_ _ | refine Mod.put ?_ ?_ _) | focus (simp; done) | focus (simp; omega)))) (by simp))).mono ?_; rintro e w1 ⟨rfl, rfl⟩)) | (go_at_call 11; go_must (refine (gsys_store (hs2.keep0 (by (repeat (first | with_reducible (first | exact Mod.refl _ _ | apply Mod.drewN | apply Mod.drew | apply Mod.alloc | refine Mod.setCell ?_ ?_ _ | refine Mod.put ?_ ?_ _) | focus (simp; done) | focus (simp; omega))))) 9 s 3 (s + 5) V4.out.1 V4.out.2 (mayA_slot ⟨s0, s1⟩ (by omega) (by omega))).mono ?_; rintro e W3 ⟨rfl, hs3, hM3⟩; have hN3 : Mod W2 W3 [m, mb] := (Mod.call (S := [m, mb]) (by (repeat (first | with_reducible (first | exact Mod.refl _ _ | apply Mod.drewN | apply Mod.drew | apply Mod.alloc | refine Mod.setCell ?_ ?_ _ | refine Mod.put ?_ ?_ _) | focus (simp; done) | focus (simp; omega)))) hM3 (fun y hy => .inl hy)); have hsb3 := hsb2.mod hN3 (by simp; omega); have heb3 := heb2.mod hN3 (by simp; omega); have hrb3 := hrb2.mod hN3 (by simp; omega); have k1 := heb3.cell 4; have k2 := hsb3.cell 0; simp only [getRules] at k1 k2; clear c1 c2)))
  have hMW3 := hMW2.call hN3 (fun y hy => .inl hy)
  clear k1 k2 hsl hel hml hsb2 heb2 hrb2 hs2 hM3 hN3 hMW2
  go_wp2_with fail
  -- the word of field 4
  have c1 := hsb3.cell 0
  have c2 := heb3.cell 5
  simp only [getRules] at c1 c2
  have hsl := hsb3.lt
  have hel := heb3.lt
  have hml := hs3.lo
  go_region_held3 (fun W => W.cell? ⟨eb, 5, none⟩ = some (.int .u64 (s + 9)) ∧ W.cell? ⟨sb, 0, none⟩ = some (.int .i64 s))
    (first | exact ⟨by assumption, by assumption⟩ | (simp [go_sem, c1, c2, hsl, hel]))
    (first | (go_at_call 57; go_must (refine (at_any _ sb s 4 (hsb3.mod (S := []) (by (repeat (first | with_reducible (first | exact Mod.refl _ _ | apply Mod.drewN | apply Mod.drew | apply Mod.alloc | refine Mod.setCell ?_ ?_ _ | refine Mod.put ?_ ?_ _) | focus (simp; done) | focus (simp; omega)))) (by simp))).mono ?_; rintro e w1 ⟨rfl, rfl⟩)) | (go_at_call 11; go_must (refine (gsys_store (hs3.keep0 (by (repeat (first | with_reducible (first | exact Mod.refl _ _ | apply Mod.drewN | apply Mod.drew | apply Mod.alloc | refine Mod.setCell ?_ ?_ _ | refine Mod.put ?_ ?_ _) | focus (simp; done) | focus (simp; omega))))) 9 s 4 (s + 9) V5.out.1 V5.out.2 (mayA_slot ⟨s0, s1⟩ (by omega) (by omega))).mono ?_; rintro e W4 ⟨rfl, hs4, hM4⟩; have hN4 : Mod W3 W4 [m, mb] := (Mod.call (S := [m, mb]) (by (repeat (first | with_reducible (first | exact Mod.refl _ _ | apply Mod.drewN | apply Mod.drew | apply Mod.alloc | refine Mod.setCell ?_ ?_ _ | refine Mod.put ?_ ?_ _) | focus (simp; done) | focus (simp; omega)))) hM4 (fun y hy => .inl hy)); have hsb4 := hsb3.mod hN4 (by simp; omega); have heb4 := heb3.mod hN4 (by simp; omega); have hrb4 := hrb3.mod hN4 (by simp; omega); have k1 := heb4.cell 5; have k2 := hsb4.cell 0; simp only [getRules] at k1 k2; clear c1 c2)))
  have hMW4 := hMW3.call hN4 (fun y hy => .inl hy)
  clear k1 k2 hsl hel hml hsb3 heb3 hrb3 hs3 hM4 hN4 hMW3
  have c_heb4_0 := heb4.cell 0; have c_heb4_1 := heb4.cell 1; have c_heb4_2 := heb4.cell 2; have c_heb4_3 := heb4.cell 3; have c_heb4_4 := heb4.cell 4; have c_heb4_5 := heb4.cell 5; simp only [getRules] at c_heb4_0 c_heb4_1 c_heb4_2 c_heb4_3 c_heb4_4 c_heb4_5
  have c_hrb4_0 := hrb4.cell 0; have c_hrb4_1 := hrb4.cell 1; have c_hrb4_2 := hrb4.cell 2; have c_hrb4_3 := hrb4.cell 3; have c_hrb4_4 := hrb4.cell 4; have c_hrb4_5 := hrb4.cell 5; simp only [getRules] at c_hrb4_0 c_hrb4_1 c_hrb4_2 c_hrb4_3 c_hrb4_4 c_hrb4_5
  have fz := hrb4.frozen
  have hrl := hrb4.lt
  have hel := heb4.lt
  go_wp2
  refine bodyPost_ret (v := (E s).val) ?_ rfl ⟨rfl, ?_, ?_⟩
  · simp [results, Tryd.results20, go_sem, E, Ent6.val, *]
  · refine hs4.keep (S := [rb]) ?_ ?_ ?_ ?_
    · (repeat (first | with_reducible (first | exact Mod.refl _ _ | apply Mod.drewN | apply Mod.drew | apply Mod.alloc | refine Mod.setCell ?_ ?_ _ | refine Mod.put ?_ ?_ _) | focus (simp; done) | focus (simp; omega)))
    · simp
      omega
    · simp
      omega
    · simp
      omega
  · (repeat (first | with_reducible (first | exact hMW4 | exact Mod.refl _ _ | apply Mod.drewN | apply Mod.drew | apply Mod.alloc | refine Mod.setCell ?_ ?_ _ | refine Mod.put ?_ ?_ _ | refine Mod.call ?_ hMW4 ?_) | focus (simp; done) | focus (simp; omega)))

end law12
end Go.Proofs.YtghkdkdlbkmicaaDoor
