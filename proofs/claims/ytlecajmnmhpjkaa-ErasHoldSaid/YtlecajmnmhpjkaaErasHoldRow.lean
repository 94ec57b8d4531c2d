/- ErasHold: a thread that entered at e, and raised till h, reaches what was born at h, or ahead of that, and retired at e, or later, and nothing else; when it is out it reaches nothing. For every first era, every slice of bytes, and every entry the law answers true. No condition. -/
import Derived.Test.YtlecajmnmhpjkaaErasHold
import Derived.Test.YtlecajmnmhpjkaaErasHoldFacts
import Derived.Test.YtlecajmnmhpjkaaRows
import Derived.WalkKit
import Derived.ProofKit
import Derived.OpenShut
import Derived.Deep.DeepHandedRow
import Derived.Lib.LaidTab
namespace Go.Proofs.Ytlecajmnmhpjkaa.erasHold
open Go.ChangeShapes Go.WideShapes Go.ChangeAt Go.RowKit

theorem own : ownKnob Try.prog.godebug = none := by kernel_rfl
theorem laidOut' : laidOutB Try.prog = true := by kernel_rfl
theorem cellsByte : Try.prog.cellsOf 5 = 1 := by kernel_rfl

theorem cellsWord : Try.prog.cellsOf 22 = 1 := by kernel_rfl
theorem cellsEntry : Try.prog.cellsOf 28 = 6 := by kernel_rfl

/-- The walk, whatever the slice. -/
theorem walk (w : World) (first : Int) (f0 : 0 ≤ first) (f1 : first < 18446744073709551616) (r0 r1 r2 ep : Value) (bi ei : Int) (pa : Option Addr) (cap : Nat) (l : List Int) (hr : ∀ x ∈ l, 0 ≤ x ∧ x < 256)
    (hc : ∀ i (hi : i < l.length), ∃ b off, pa = some ⟨b, off, none⟩ ∧ w.cell? ⟨b, off + i, none⟩ = some (.int .u8 l[i])) :
    Calls Try.prog 3 #[.int .u64 first, .slice pa l.length cap, .agg #[r0, r1, r2, .int .u64 bi, ep, .int .u64 ei]] w fun e w' => e = .returned (.bool true) ∧ Mod w w' [] := by
  rcases Nat.lt_or_ge 100 l.length with h | h
  · exact law17.hold_long w first r0 r1 r2 ep bi ei pa cap l.length h
  · exact law17.hold_walk w first f0 f1 r0 r1 r2 ep bi ei pa cap l hr h hc

set_option maxRecDepth 100000 in
set_option maxHeartbeats 2000000 in
theorem contract (H : Type) (enc : TypeId × Value → H) (W : World) (base : Nat) (args : Array Value) (ds gs : List (DataW H)) (before : List MemPlace)
    (hval : ∀ (j : Nat) t v, Try.f3.params[j]? = some t → args[j]? = some v → Value.okWide Try.prog W .any base t v)
    (hW : DataW.Whole enc Try.prog Try.f3.params.toList Rows.erasHoldSpec.vars false W args.toList ds gs before) :
    Calls Try.prog 3 args W fun e W' => ∃ v, e = .returned v ∧ Rows.erasHoldSpec.post enc Try.prog Try.f3 false true false false W args v W' := by
  have hW' := hW
  obtain ⟨p, q, hA0, hV, rfl, hfz, hnd⟩ := hW
  have hA : DataW.TrodAll enc Try.prog W 0 (fun _ => true) true Try.f3.params.toList args.toList ds p := hA0
  rw [Try.params3] at hA hval
  obtain ⟨v0, vs0, d0, ds0, p0, q0, hargs, rfl, rfl, h0, r0⟩ := trodAll_cons hA
  obtain ⟨v1, vs1, d1, ds1, p1, q1, hargs1, rfl, rfl, h1, r1⟩ := trodAll_cons r0
  obtain ⟨v2, vs2, d2, ds2, p2, q2, hargs2, rfl, rfl, h2, r2⟩ := trodAll_cons r1
  obtain ⟨rfl, rfl, rfl⟩ := trodAll_nil r2
  subst hargs2
  subst hargs1
  obtain rfl : args = #[v0, v1, v2] := by cases args; simp_all
  obtain ⟨rfl, rfl⟩ := trodVars_none hV
  obtain ⟨k0, rfl⟩ := okWide_int Try.underlying22 (hval 0 22 v0 rfl rfl)
  obtain ⟨a0, len, cap, rfl⟩ := okWide_slice Try.underlying23 (hval 1 23 v1 rfl rfl)
  obtain ⟨cs, rfl, hcs⟩ := okWide_struct Try.underlying28 (hval 2 28 v2 rfl rfl)
  clear hA0
  simp only [List.append_nil] at hW'
  have hlt : ∀ x ∈ p0 ++ (p1 ++ p2), x.block < W.heap.size := fun x hx => by simpa using hW'.lt x hx
  have hk : 0 ≤ k0 ∧ k0 < 18446744073709551616 := by
    obtain ⟨fuel, hfu⟩ := h0
    obtain ⟨a, ha, _, hw⟩ := DataW.trod_int Try.underlying22 hfu
    simp [Value.cells] at ha
    subst ha
    have := bounds_u64 hw
    omega
  obtain ⟨w0, w1, w2, bi, ep, ei, rfl⟩ : ∃ w0 w1 w2 bi ep ei, cs = #[w0, w1, w2, .int .u64 bi, ep, .int .u64 ei] := by
    obtain ⟨fuel, hfu⟩ := h2
    obtain ⟨xs, n, _, _, _, hlen, hf⟩ := DataW.trod_struct Try.underlying28 hfu
    have hf1 := hf 1 _ rfl
    have hf3 := hf 3 _ rfl
    have hx4 : xs.length = 4 := hlen
    rw [List.getElem?_eq_getElem (by omega)] at hf1 hf3
    obtain ⟨bi, hb, _, _⟩ := DataW.trod_int Try.underlying22 hf1
    obtain ⟨ei, he, _, _⟩ := DataW.trod_int Try.underlying22 hf3
    rw [cellsEntry] at hcs
    obtain ⟨l, rfl⟩ : ∃ l : List Value, cs = l.toArray := ⟨cs.toList, by simp⟩
    simp at hcs
    match l, hcs with
    | [c0, c1, c2, c3, c4, c5], _ =>
      simp [Value.cells, show Try.prog.cellsOf 22 = 1 from cellsWord] at hb he
      subst hb
      subst he
      exact ⟨c0, c1, c2, bi, c4, ei, rfl⟩
  have hcall : Calls Try.prog 3 #[.int .u64 k0, .slice a0 len cap, .agg #[w0, w1, w2, .int .u64 bi, ep, .int .u64 ei]] W fun e w' => e = .returned (.bool true) ∧ Mod W w' [] := by
    obtain ⟨fuel, hfu⟩ := h1
    rcases open_ints Try.underlying23 Try.underlying5 cellsByte hfu with ⟨hcs, hx⟩ | ⟨a, len', cap', zs, hcs, _, hl, hm, hz, hx, hcell, hwz⟩
    · simp [Value.cells] at hcs
      obtain ⟨rfl, rfl, rfl⟩ := hcs
      exact walk W k0 hk.1 hk.2 w0 w1 w2 ep bi ei none 0 [] (by simp) (fun i hi => by simp at hi)
    · simp [Value.cells] at hcs
      obtain ⟨rfl, rfl, rfl⟩ := hcs
      simp only [if_true] at hz
      have hlen : (zs.take len).length = len := by
        rw [List.length_take]
        omega
      have hw := walk W k0 hk.1 hk.2 w0 w1 w2 ep bi ei (some a) cap (zs.take len) (fun x hx => by have := bounds_u8 (hwz x (List.mem_of_mem_take hx)); omega) (fun i hi => by
        have hi' : i < zs.length := by omega
        obtain ⟨b, off, rfl, hc⟩ := ints_at hcell (by omega)
        refine ⟨b, off, rfl, ?_⟩
        have := hc i hi'
        rw [this]
        simp [List.getD_eq_getElem?_getD, hi'])
      rw [hlen] at hw
      exact hw
  refine hcall.mono fun e W' ⟨he, hM⟩ => ?_
  subst he
  have bel := hM.below (by simp)
  refine ⟨_, rfl, _, _, _, [] ++ [], p0 ++ (p1 ++ p2), [], hW', ?_, ?_, rfl, bel.frame _, fun h => by cases h⟩
  · exact trodAll_mk1 (shut_bool Try.underlying4 _)
  · exact trodAll_mk3 (Below.trod laidOut' (by kernel_rfl) (of_decide_eq_true (by kernel_rfl)) h0 bel (fun x hx => hlt x (by simp [hx]))) (Below.trod laidOut' (by kernel_rfl) (of_decide_eq_true (by kernel_rfl)) h1 bel (fun x hx => hlt x (by simp [hx]))) (Below.trod laidOut' (by kernel_rfl) (of_decide_eq_true (by kernel_rfl)) h2 bel (fun x hx => hlt x (by simp [hx])))

theorem laid_met (os : Os) : laidMet Try.prog Rows.erasHoldRow.laid ((World.holding Try.prog os ⟨#[], #[], []⟩).forCall (fun _ _ => 0) ⟨#[], #[.int .u64 0, .slice none 0 0, Value.agg #[.int .i64 0, .int .u32 0, .bool false, .int .u64 0, .int .u64 0, .int .u64 0]], []⟩).memory :=
  laidMet_of_run' 8 (by kernel_rfl) (by kernel_rfl)
theorem reads (os : Os) {H : Type} (enc : TypeId × Value → H) : ∃ places, DataW.whole enc Try.prog ((World.holding Try.prog os ⟨#[], #[], []⟩).forCall (fun _ _ => 0) ⟨#[], #[.int .u64 0, .slice none 0 0, Value.agg #[.int .i64 0, .int .u32 0, .bool false, .int .u64 0, .int .u64 0, .int .u64 0]], []⟩).memory Try.f3.params.toList Rows.erasHoldSpec.vars false #[Value.int .u64 0, Value.slice none 0 0, Value.agg #[.int .i64 0, .int .u32 0, .bool false, .int .u64 0, .int .u64 0, .int .u64 0]].toList 8 = some ([.lit (.int .u64 0), .nil, .agg [.agg [.lit (.int .i64 0), .lit (.int .u32 0), .lit (.bool false)], .lit (.int .u64 0), .lit (.int .u64 0), .lit (.int .u64 0)]], [], places) :=
  ⟨[], by kernel_rfl⟩

set_option maxRecDepth 100000 in
theorem lifted (os : Os) (started : os.Started) (H : Type) (enc : TypeId × Value → H) (F : Stop.Interp) :
    ReturnsInHanded {} Try.checked os 3 .any ((OpenSpec.ofChange Rows.erasHoldSpec).preRow enc Try.prog Try.f3 Rows.erasHoldRow.domain false Rows.erasHoldRow.laid) (((OpenSpec.ofChange Rows.erasHoldSpec).at F).post enc Try.prog Try.f3 false true false false) := by
  obtain ⟨places, hx⟩ := reads os enc
  refine returnsInHanded_of_row (C := Try.checked) (s := OpenSpec.ofChange Rows.erasHoldSpec) own started (by kernel_rfl) Try.func3
    (witness_row_at (enc := enc) (C := Try.checked) false (World.holding Try.prog os ⟨#[], #[], []⟩) #[.int .u64 0, .slice none 0 0, Value.agg #[.int .i64 0, .int .u32 0, .bool false, .int .u64 0, .int .u64 0, .int .u64 0]] rfl (by kernel_rfl) (by kernel_rfl) (by kernel_rfl)
      (OpenSpec.preRow_of_cond 8 hx (by kernel_rfl) (fun k hk => by cases hk) (by kernel_rfl) (laid_met os))) ?_
  intro W base args ds gs before hval hW _ _ _ hL _ _
  exact contract H enc W base args ds gs before hval hW

theorem said : Rows.ErasHoldSaid :=
  OpenClaim.holds_of_cond 3 Try.f3 rfl rfl rfl rfl rfl rfl rfl ⟨rfl, rfl, rfl, rfl, rfl⟩ rfl rfl rfl rfl rfl (by as_aux_lemma => kernel_rfl) Try.func3 facts
    (of_decide_eq_true (by as_aux_lemma => kernel_rfl)) (by unfold Func.isWrapper; first | (rw [if_pos (by as_aux_lemma => decide +kernel)]; kernel_rfl) | (rw [if_neg (by as_aux_lemma => decide +kernel)]; exact ⟨rfl, rfl⟩))
    (fun os started H enc _ F => by rw [OpenClaim.pre_eq_preRow]; exact lifted os started H enc F)

#print axioms said

end Go.Proofs.Ytlecajmnmhpjkaa.erasHold
