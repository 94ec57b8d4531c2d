/- What the listed variable 'fields' gives the walks: its cells. -/
import Derived.Test.YtghkdkdlbkmicaaDoorWords
import Derived.Test.YtghkdkdlbkmicaaDoorCards
import Derived.ProofKit
import Derived.OpenShut
import Derived.LaidMore
import Derived.MakeChecks
namespace Go.Proofs.YtghkdkdlbkmicaaDoor
open Go.ChangeShapes Go.WideShapes Go.ChangeAt Go.RowKit

theorem own : ownKnob Tryd.prog.godebug = none := by kernel_rfl
theorem laidOut' : laidOutB Tryd.prog = true := by kernel_rfl
theorem gFields : Tryd.prog.globalNamed "ragpicker/words.fields" = some 0 := by kernel_rfl
theorem tFields : (Tryd.prog.globals[0]?).map (·.type) = some 152 := by kernel_rfl
theorem cellsPair : Tryd.prog.cellsOf 151 = 2 := by kernel_rfl
theorem cellsByte : Tryd.prog.cellsOf 5 = 1 := by kernel_rfl
theorem cellsUint : Tryd.prog.cellsOf 150 = 1 := by kernel_rfl

section
variable {H : Type} {enc : TypeId × Value → H} {P : Program} {w : World} {base : Nat} {spare : Nat → Bool} {held : Bool}
/-- A pair of numbers. -/
theorem pair_cells {t u : TypeId} {f0 f1 : Field} {fuel : Nat} {cs : List Value} {x : DataW H × List MemPlace} (ht : P.underlying t = some (.struct #[f0, f1])) (e0 : f0.type = u) (e1 : f1.type = u) (o0 : f0.offset = 0) (o1 : f1.offset = 1)
    (hu : P.underlying u = some (.int .u64)) (hc : P.cellsOf u = 1) (h : DataW.trod enc P w base spare held fuel t cs = some x) :
    ∃ a b, cs[0]? = some (.int .u64 a) ∧ cs[1]? = some (.int .u64 b) ∧ x.1 = .agg [.lit (.int .u64 a), .lit (.int .u64 b)] := by
  obtain ⟨y0, y1, n, rfl, hl, h0, h1⟩ := trod_struct2 ht h
  rw [e0, o0, hc] at h0
  rw [e1, o1, hc] at h1
  obtain ⟨a, ha, rfl, _⟩ := DataW.trod_int hu h0
  obtain ⟨b, hb, rfl, _⟩ := DataW.trod_int hu h1
  refine ⟨a, b, ?_, ?_, rfl⟩
  · have := congrArg (·[0]?) ha
    simpa using this
  · have := congrArg (·[0]?) hb
    simpa using this
end

theorem fields_of_laid {W : World} (h : laidMetH Tryd.prog [("ragpicker/words.fields", Rows.laid_ragpicker_words_fields)] W) : FieldsAt W := by
  rw [MakeChecks.laidMetH_plain _ _ _ (by kernel_rfl)] at h
  obtain ⟨ps, ⟨g0, t0, cs0, f0, p0, q0, hg0, ht0, hv0, hd0, _, _⟩, _, _⟩ := h
  obtain rfl := Option.some.inj (gFields.symm.trans hg0)
  obtain rfl := Option.some.inj (tFields.symm.trans ht0)
  obtain ⟨xs, m1, e, hx1, hlen, hn, hel⟩ := DataW.trod_array Tryd.underlying152 hd0
  simp only [Prod.mk.injEq, Rows.laid_ragpicker_words_fields, DataW.agg.injEq] at hx1
  have hx := hx1.1
  have key : ∀ i, i < 11 → ∃ a b, cs0[2 * i]? = some (.int .u64 a) ∧ cs0[2 * i + 1]? = some (.int .u64 b) ∧ (xs.map (·.1))[i]? = some (.agg [.lit (.int .u64 a), .lit (.int .u64 b)]) := by
    intro i hi
    have h1 := hel i hi
    have hxi : i < xs.length := by omega
    rw [List.getElem?_eq_getElem hxi, cellsPair] at h1
    obtain ⟨a, b, ha, hb, hd⟩ := pair_cells (u := 150) Tryd.underlying151 rfl rfl rfl rfl Tryd.underlying150 cellsUint h1
    refine ⟨a, b, ?_, ?_, ?_⟩
    · rw [List.getElem?_take_of_lt (by omega), List.getElem?_drop] at ha
      rw [← ha]
      simp [Nat.mul_comm]
    · rw [List.getElem?_take_of_lt (by omega), List.getElem?_drop] at hb
      rw [← hb]
      simp [Nat.mul_comm]
    · rw [List.getElem?_map, List.getElem?_eq_getElem hxi, ← hd]
      rfl
  rw [← hx] at key
  obtain ⟨a0, b0, k0, l0, e0⟩ := key 0 (by omega)
  simp only [List.getElem?_cons_zero, Option.some.injEq, DataW.agg.injEq, List.cons.injEq, DataW.lit.injEq, Lit.int.injEq, true_and, and_true] at e0
  obtain ⟨a1, b1, k1, l1, e1⟩ := key 1 (by omega)
  simp only [List.getElem?_cons_zero, List.getElem?_cons_succ, Option.some.injEq, DataW.agg.injEq, List.cons.injEq, DataW.lit.injEq, Lit.int.injEq, true_and, and_true] at e1
  obtain ⟨a2, b2, k2, l2, e2⟩ := key 2 (by omega)
  simp only [List.getElem?_cons_zero, List.getElem?_cons_succ, Option.some.injEq, DataW.agg.injEq, List.cons.injEq, DataW.lit.injEq, Lit.int.injEq, true_and, and_true] at e2
  obtain ⟨a3, b3, k3, l3, e3⟩ := key 3 (by omega)
  simp only [List.getElem?_cons_zero, List.getElem?_cons_succ, Option.some.injEq, DataW.agg.injEq, List.cons.injEq, DataW.lit.injEq, Lit.int.injEq, true_and, and_true] at e3
  obtain ⟨a4, b4, k4, l4, e4⟩ := key 4 (by omega)
  simp only [List.getElem?_cons_zero, List.getElem?_cons_succ, Option.some.injEq, DataW.agg.injEq, List.cons.injEq, DataW.lit.injEq, Lit.int.injEq, true_and, and_true] at e4
  obtain ⟨a5, b5, k5, l5, e5⟩ := key 5 (by omega)
  simp only [List.getElem?_cons_zero, List.getElem?_cons_succ, Option.some.injEq, DataW.agg.injEq, List.cons.injEq, DataW.lit.injEq, Lit.int.injEq, true_and, and_true] at e5
  obtain ⟨a6, b6, k6, l6, e6⟩ := key 6 (by omega)
  simp only [List.getElem?_cons_zero, List.getElem?_cons_succ, Option.some.injEq, DataW.agg.injEq, List.cons.injEq, DataW.lit.injEq, Lit.int.injEq, true_and, and_true] at e6
  obtain ⟨a7, b7, k7, l7, e7⟩ := key 7 (by omega)
  simp only [List.getElem?_cons_zero, List.getElem?_cons_succ, Option.some.injEq, DataW.agg.injEq, List.cons.injEq, DataW.lit.injEq, Lit.int.injEq, true_and, and_true] at e7
  obtain ⟨a8, b8, k8, l8, e8⟩ := key 8 (by omega)
  simp only [List.getElem?_cons_zero, List.getElem?_cons_succ, Option.some.injEq, DataW.agg.injEq, List.cons.injEq, DataW.lit.injEq, Lit.int.injEq, true_and, and_true] at e8
  obtain ⟨a9, b9, k9, l9, e9⟩ := key 9 (by omega)
  simp only [List.getElem?_cons_zero, List.getElem?_cons_succ, Option.some.injEq, DataW.agg.injEq, List.cons.injEq, DataW.lit.injEq, Lit.int.injEq, true_and, and_true] at e9
  obtain ⟨a10, b10, k10, l10, e10⟩ := key 10 (by omega)
  simp only [List.getElem?_cons_zero, List.getElem?_cons_succ, Option.some.injEq, DataW.agg.injEq, List.cons.injEq, DataW.lit.injEq, Lit.int.injEq, true_and, and_true] at e10
  have hc := fun k => World.var?_cell gFields hv0 k
  have h0 : W.cell? ⟨0, 0, none⟩ = some (.int .u64 a0) := by
    rw [← k0]
    simpa using hc 0
  refine ⟨World.block_lt_of_cell? _ _ h0, fun i v hi => ?_⟩
  have hi22 : i < 22 := by
    rcases Nat.lt_or_ge i 22 with h | h
    · exact h
    · rw [List.getElem?_eq_none (by simpa [fieldTab] using h)] at hi
      cases hi
  have hci : W.cell? ⟨0, i, none⟩ = cs0[i]? := by simpa using hc i
  rw [hci]
  match i, hi22, hi with
  | 0, _, hi => simp [fieldTab] at hi; subst hi; rw [k0, ← e0.1]
  | 1, _, hi => simp [fieldTab] at hi; subst hi; rw [l0, ← e0.2]
  | 2, _, hi => simp [fieldTab] at hi; subst hi; rw [k1, ← e1.1]
  | 3, _, hi => simp [fieldTab] at hi; subst hi; rw [l1, ← e1.2]
  | 4, _, hi => simp [fieldTab] at hi; subst hi; rw [k2, ← e2.1]
  | 5, _, hi => simp [fieldTab] at hi; subst hi; rw [l2, ← e2.2]
  | 6, _, hi => simp [fieldTab] at hi; subst hi; rw [k3, ← e3.1]
  | 7, _, hi => simp [fieldTab] at hi; subst hi; rw [l3, ← e3.2]
  | 8, _, hi => simp [fieldTab] at hi; subst hi; rw [k4, ← e4.1]
  | 9, _, hi => simp [fieldTab] at hi; subst hi; rw [l4, ← e4.2]
  | 10, _, hi => simp [fieldTab] at hi; subst hi; rw [k5, ← e5.1]
  | 11, _, hi => simp [fieldTab] at hi; subst hi; rw [l5, ← e5.2]
  | 12, _, hi => simp [fieldTab] at hi; subst hi; rw [k6, ← e6.1]
  | 13, _, hi => simp [fieldTab] at hi; subst hi; rw [l6, ← e6.2]
  | 14, _, hi => simp [fieldTab] at hi; subst hi; rw [k7, ← e7.1]
  | 15, _, hi => simp [fieldTab] at hi; subst hi; rw [l7, ← e7.2]
  | 16, _, hi => simp [fieldTab] at hi; subst hi; rw [k8, ← e8.1]
  | 17, _, hi => simp [fieldTab] at hi; subst hi; rw [l8, ← e8.2]
  | 18, _, hi => simp [fieldTab] at hi; subst hi; rw [k9, ← e9.1]
  | 19, _, hi => simp [fieldTab] at hi; subst hi; rw [l9, ← e9.2]
  | 20, _, hi => simp [fieldTab] at hi; subst hi; rw [k10, ← e10.1]
  | 21, _, hi => simp [fieldTab] at hi; subst hi; rw [l10, ← e10.2]

end Go.Proofs.YtghkdkdlbkmicaaDoor
