/- A map from addresses to words: what a look-up, an entry made, an entry stored do to its block. -/
import Derived.Test.YtghkdkdlbkmicaaDoorProg
import Derived.Test.YtghkdkdlbkmicaaDoorBase
namespace Go.Proofs.YtghkdkdlbkmicaaDoor
open Go.RowKit

/-- An address as a key. -/
def K (k a f : Int) : Value := .agg #[.int .u8 k, .int .i64 a, .int .i64 f]

structure Ent where
  k : Int
  a : Int
  f : Int
  v : Int
  born : Nat

def Ent.toEntry (x : Ent) : MapEntry := { key := K x.k x.a x.f, val := .int .u64 x.v, born := x.born }
def Ent.is (x : Ent) (k a f : Int) : Bool := k == x.k && (a == x.a && f == x.f)
def entsOf (L : List Ent) : Array MapEntry := (L.map Ent.toEntry).toArray

/-- The value at a key; none: 0. -/
def lookE (L : List Ent) (k a f : Int) : Int := ((L.find? (·.is k a f)).map Ent.v).getD 0
def Born (L : List Ent) (clock : Nat) : Prop := L.Pairwise (fun x y => x.born ≠ y.born) ∧ ∀ x ∈ L, x.born < clock

theorem run_checkKey_K (e : Bool) (k a f : Int) (w : World) : (Instr.checkKey e 10000 31 (K k a f)).run Tryd.prog w = .ok () w := by
  kernel_rfl

theorem run_eq_K (k a f k' a' f' : Int) (w : World) :
    (Op.equal 31 (K k a f) (K k' a' f')).run Tryd.prog w = .ok (k == k' && (a == a' && f == f')) w := by
  unfold Op.equal Op.maxDepth K
  go_simp
  by_cases h1 : k = k'
  · by_cases h2 : a = a'
    · by_cases h3 : f = f' <;> simp [h1, h2, h3]
    · simp [h1, h2]
  · simp [h1]

theorem run_findAsking_K (k a f : Int) (w : World) : ∀ (L : List Ent) (i : Nat),
    (Instr.findAsking 31 (K k a f) (L.map Ent.toEntry) i).run Tryd.prog w =
      .ok ((L.findIdx? (·.is k a f)).map (fun j => (i + j, Value.int .u64 (lookE L k a f)))) w
  | [], i => by simp [Instr.findAsking]
  | x :: L, i => by
    have ih := run_findAsking_K k a f w L (i + 1)
    simp only [List.map_cons, Instr.findAsking, Sem.run_bind, Ent.toEntry, run_eq_K, Result.andThen_ok, List.findIdx?_cons, Ent.is, lookE, List.find?_cons]
    by_cases h : (k == x.k && (a == x.a && f == x.f)) = true
    · simp [h]
    · have h' : (k == x.k && (a == x.a && f == x.f)) = false := by simpa using h
      simp only [h', Bool.false_eq_true, if_false]
      refine ih.trans ?_
      simp only [lookE, Ent.is, Option.map_map]
      congr 2
      funext j
      simp only [Function.comp]
      congr 1
      omega

theorem run_findKey_K (k a f : Int) (w : World) (L : List Ent) :
    (Instr.findKey 31 (K k a f) (L.map Ent.toEntry)).run Tryd.prog w =
      .ok ((L.findIdx? (·.is k a f)).map (fun j => (j, Value.int .u64 (lookE L k a f)))) w := by
  have h := run_findAsking_K k a f w L 0
  unfold Instr.findKey
  rw [Sem.run_bind, run_underlying Tryd.underlying31]
  cases L with
  | nil => simp [Instr.findNow]
  | cons x L =>
    simp only [List.map_cons, Instr.findNow, Ent.toEntry, K, Instr.sameNow, Result.andThen_ok]
    simpa [Ent.toEntry, K] using h

theorem run_getObj_at {w : World} {r : Nat} {es : Array MapEntry} {clock : Nat} (h : Has w r (.map es clock)) :
    (getObj r).run Tryd.prog w = .ok (.map es clock) w := by
  unfold Has at h
  simp [getObj, Sem.run, h]

theorem run_setObj_at {w : World} {r : Nat} {es : Array MapEntry} {clock : Nat} (h : Has w r (.map es clock)) (o : Obj) :
    (setObj r o).run Tryd.prog w = .ok () (putObj w r o) := by
  unfold Has at h
  simp [setObj, Sem.run, h, putObj]

theorem zero_u64 (w : World) : (zeroValue 24).run Tryd.prog w = .ok (.int .u64 0) w := by kernel_rfl

theorem findIdx?_none_look {L : List Ent} {k a f : Int} (h : L.findIdx? (·.is k a f) = none) : lookE L k a f = 0 := by
  unfold lookE
  rw [List.findIdx?_eq_none_iff] at h
  rw [List.find?_eq_none.2 (by simpa using h)]
  rfl

/-- A look-up. -/
theorem run_lookup_K {w : World} {mb : Nat} {L : List Ent} {clock : Nat} (h : Has w mb (.map (entsOf L) clock)) (k a f : Int) :
    (Instr.lookup 120 (.map (some mb)) (K k a f) false).run Tryd.prog w = .ok (.int .u64 (lookE L k a f)) w := by
  have hk := run_findKey_K k a f w L
  rw [show L.map Ent.toEntry = (entsOf L).toList by simp [entsOf]] at hk
  unfold Instr.lookup
  simp only [Sem.run_bind, run_underlying Tryd.underlying120, Result.andThen_ok, run_getObj_at h, run_checkKey_K, Sem.run_pure, hk]
  cases hi : L.findIdx? (·.is k a f) with
  | none => simp [findIdx?_none_look hi]
  | some j => simp

/-- The index of a key, and what an entry made, an entry stored, turn. -/
def madeE (L : List Ent) (clock : Nat) (k a f : Int) : List Ent := if (L.findIdx? (·.is k a f)).isSome then L else L ++ [⟨k, a, f, 0, clock⟩]
def madeC (L : List Ent) (clock : Nat) (k a f : Int) : Nat := if (L.findIdx? (·.is k a f)).isSome then clock else clock + 1
def stampE (L : List Ent) (clock : Nat) (k a f : Int) : Nat := ((L.find? (·.is k a f)).map Ent.born).getD clock
def setE (L : List Ent) (stamp : Nat) (v : Int) : List Ent := L.map (fun x => if x.born = stamp then { x with v := v } else x)

theorem keyThatStays_K (k a f : Int) (w : World) : (Instr.keyThatStays (K k a f) (K k a f)).run Tryd.prog w = .ok (K k a f) w := by
  have : Instr.sameBits 10000 (K k a f) (K k a f) = true := by
    simp [K, Instr.sameBits]
  simp [Instr.keyThatStays, this]

theorem is_iff {x : Ent} {k a f : Int} : x.is k a f = true ↔ k = x.k ∧ a = x.a ∧ f = x.f := by
  unfold Ent.is
  simp

theorem modify_key_self (L : List Ent) (j : Nat) (k a f : Int) (h : ∀ x, L[j]? = some x → x.is k a f = true) :
    (entsOf L).modify j (fun e => { e with key := K k a f }) = entsOf L := by
  apply Array.ext_getElem?
  intro i
  simp only [Array.getElem?_modify, entsOf, List.getElem?_toArray, List.getElem?_map]
  by_cases hj : j = i
  · subst hj
    simp only [if_true]
    cases hx : L[j]? with
    | none => simp
    | some x =>
      obtain ⟨h1, h2, h3⟩ := is_iff.1 (h x hx)
      simp [Ent.toEntry, h1, h2, h3]
  · simp [hj]

theorem run_mapEntry_K {w : World} {mb : Nat} {L : List Ent} {clock : Nat} (h : Has w mb (.map (entsOf L) clock)) (k a f : Int) :
    (Instr.mapEntry 120 (.map (some mb)) (K k a f)).run Tryd.prog w =
      .ok (.tuple #[.int .u64 (lookE L k a f), .int .i64 (stampE L clock k a f)]) (putObj w mb (.map (entsOf (madeE L clock k a f)) (madeC L clock k a f))) := by
  have hk := run_findKey_K k a f w L
  rw [show L.map Ent.toEntry = (entsOf L).toList by simp [entsOf]] at hk
  have hc : (Instr.checkKey false 10000 31 (K k a f)).run Tryd.prog w = .ok () w := run_checkKey_K _ _ _ _ _
  unfold Instr.mapEntry
  simp only [Sem.run_bind, run_underlying Tryd.underlying120, Result.andThen_ok, run_getObj_at h, hc, hk]
  cases hi : L.findIdx? (·.is k a f) with
  | none =>
    have hf : L.find? (·.is k a f) = none := by
      rw [List.findIdx?_eq_none_iff] at hi
      rw [List.find?_eq_none]
      simpa using hi
    simp only [Option.map_none, Sem.run_bind, zero_u64, Result.andThen_ok, run_setObj_at h, Sem.run_pure, findIdx?_none_look hi, stampE, hf, madeE, madeC, hi, Option.isSome_none, Bool.false_eq_true, if_false, Option.getD_none, goInt]
    simp [entsOf, Ent.toEntry]
  | some j =>
    obtain ⟨hlt, hj, hlast⟩ := List.findIdx?_eq_some_iff_getElem.1 hi
    have hx : L[j]? = some L[j] := List.getElem?_eq_getElem hlt
    have hf : L.find? (·.is k a f) = some L[j] := by
      rw [List.find?_eq_some_iff_getElem]
      exact ⟨hj, j, hlt, rfl, fun m hm => by simpa using hlast m hm⟩
    have he : (entsOf L)[j]? = some (L[j]).toEntry := by simp [entsOf, hx]
    obtain ⟨e1, e2, e3⟩ := is_iff.1 hj
    have hkey : ((L[j]).toEntry).key = K k a f := by simp [Ent.toEntry, ← e1, ← e2, ← e3]
    simp only [Option.map_some, he, Option.getD_some, hkey, Sem.run_bind, keyThatStays_K, Result.andThen_ok, run_setObj_at h, Sem.run_pure, stampE, hf, madeE, madeC, hi, Option.isSome_some, if_true, goInt]
    rw [modify_key_self L j k a f (fun x hx' => by rw [hx] at hx'; cases hx'; exact hj)]
    simp [Ent.toEntry]

theorem find_at {L : List Ent} {k a f : Int} {j : Nat} (hi : L.findIdx? (·.is k a f) = some j) :
    ∃ x, L[j]? = some x ∧ x.is k a f = true ∧ L.find? (·.is k a f) = some x := by
  obtain ⟨hlt, hj, hlast⟩ := List.findIdx?_eq_some_iff_getElem.1 hi
  refine ⟨L[j], List.getElem?_eq_getElem hlt, hj, ?_⟩
  rw [List.find?_eq_some_iff_getElem]
  exact ⟨hj, j, hlt, rfl, fun m hm => by simpa using hlast m hm⟩

theorem find_none {L : List Ent} {k a f : Int} (hi : L.findIdx? (·.is k a f) = none) : L.find? (·.is k a f) = none := by
  rw [List.findIdx?_eq_none_iff] at hi
  rw [List.find?_eq_none]
  simpa using hi

theorem born_unique {L : List Ent} {clock : Nat} (hB : Born L clock) {x y : Ent} (hx : x ∈ L) (hy : y ∈ L) (h : x.born = y.born) : x = y := by
  have hp := hB.1
  clear hB
  induction L with
  | nil => cases hx
  | cons z L ih =>
    rw [List.pairwise_cons] at hp
    rcases List.mem_cons.1 hx with hx' | hx'
    · rcases List.mem_cons.1 hy with hy' | hy'
      · rw [hx', hy']
      · exact absurd h (hx' ▸ hp.1 _ hy')
    · rcases List.mem_cons.1 hy with hy' | hy'
      · exact absurd h.symm (hy' ▸ hp.1 _ hx')
      · exact ih hx' hy' hp.2

theorem madeE_born {L : List Ent} {clock : Nat} (hB : Born L clock) (k a f : Int) : Born (madeE L clock k a f) (madeC L clock k a f) := by
  unfold madeE madeC
  cases hi : L.findIdx? (·.is k a f) with
  | some j => simpa using hB
  | none =>
    simp only [Option.isSome_none, Bool.false_eq_true, if_false]
    refine ⟨?_, ?_⟩
    · rw [List.pairwise_append]
      refine ⟨hB.1, by simp, fun x hx y hy => ?_⟩
      have := hB.2 x hx
      simp only [List.mem_singleton] at hy
      subst hy
      simp
      omega
    · intro x hx
      rcases List.mem_append.1 hx with hx | hx
      · have := hB.2 x hx
        omega
      · simp only [List.mem_singleton] at hx
        subst hx
        simp

/-- The entry that was made stands in the list under its stamp. -/
theorem made_mem {L : List Ent} {clock : Nat} (k a f : Int) :
    ∃ x ∈ madeE L clock k a f, x.is k a f = true ∧ x.born = stampE L clock k a f ∧ (madeE L clock k a f).find? (·.is k a f) = some x := by
  unfold madeE stampE
  cases hi : L.findIdx? (·.is k a f) with
  | some j =>
    obtain ⟨x, hx, hk, hf⟩ := find_at hi
    exact ⟨x, by simpa using List.mem_of_getElem? hx, hk, by simp [hf], by simpa using hf⟩
  | none =>
    have hf := find_none hi
    refine ⟨⟨k, a, f, 0, clock⟩, by simp, by simp [Ent.is], by simp [hf], ?_⟩
    simp only [Option.isSome_none, Bool.false_eq_true, if_false]
    rw [List.find?_append, hf]
    simp [Ent.is]

theorem setE_born {L : List Ent} {clock : Nat} (hB : Born L clock) (b : Nat) (v : Int) : Born (setE L b v) clock := by
  have e : ∀ x : Ent, (if x.born = b then { x with v := v } else x).born = x.born := fun x => by split <;> rfl
  refine ⟨?_, ?_⟩
  · unfold setE
    rw [List.pairwise_map]
    simpa only [e] using hB.1
  · intro x hx
    unfold setE at hx
    obtain ⟨y, hy, rfl⟩ := List.mem_map.1 hx
    rw [e]
    exact hB.2 y hy

theorem look_stored {L : List Ent} {clock : Nat} (hB : Born L clock) (k a f v k' a' f' : Int) :
    lookE (setE (madeE L clock k a f) (stampE L clock k a f) v) k' a' f' = if k' = k ∧ a' = a ∧ f' = f then v else lookE L k' a' f' := by
  obtain ⟨x, hx, hk, hb, hfx⟩ := made_mem (L := L) (clock := clock) k a f
  have hB' := madeE_born hB k a f
  obtain ⟨e1, e2, e3⟩ := is_iff.1 hk
  have hold : lookE (madeE L clock k a f) k' a' f' = lookE L k' a' f' := by
    unfold madeE
    cases hi : L.findIdx? (·.is k a f) with
    | some j => simp
    | none =>
      simp only [Option.isSome_none, Bool.false_eq_true, if_false, lookE, List.find?_append]
      cases hf : L.find? (·.is k' a' f') with
      | some y => simp
      | none => cases hq : Ent.is ⟨k, a, f, 0, clock⟩ k' a' f' <;> simp [hq]
  rw [← hold]
  generalize madeE L clock k a f = M at *
  generalize stampE L clock k a f = b at *
  have hp : ∀ y : Ent, (if y.born = b then { y with v := v } else y).is k' a' f' = y.is k' a' f' := fun y => by split <;> rfl
  unfold lookE setE
  rw [List.find?_map]
  simp only [Function.comp_def, hp]
  by_cases hs : k' = k ∧ a' = a ∧ f' = f
  · obtain ⟨rfl, rfl, rfl⟩ := hs
    rw [hfx]
    simp [hb]
  · rw [if_neg hs]
    cases hq : M.find? (·.is k' a' f') with
    | none => simp
    | some y =>
      have hy := List.find?_some hq
      have hym := List.mem_of_find?_eq_some hq
      have hyk := is_iff.1 hy
      have hne : y.born ≠ b := fun e => hs (by
        have := born_unique hB' hym hx (e.trans hb.symm)
        subst this
        exact ⟨hyk.1.trans e1.symm, hyk.2.1.trans e2.symm, hyk.2.2.trans e3.symm⟩)
      simp [hne]

/-- An entry's store. -/
theorem run_entryStore_K {w : World} {mb : Nat} {L : List Ent} {clock : Nat} (h : Has w mb (.map (entsOf L) clock)) (hB : Born L clock) {x : Ent} (hx : x ∈ L) (v : Int) :
    (Instr.entryStore 120 (.map (some mb)) (.int .i64 x.born) (.int .u64 v)).run Tryd.prog w = .ok () (putObj w mb (.map (entsOf (setE L x.born v)) clock)) := by
  unfold Instr.entryStore
  simp only [Sem.run_bind, Result.andThen_ok, run_getObj_at h, asInt, Sem.run_pure]
  have hidx : ∃ i, (entsOf L).findIdx? (fun e => (e.born : Int) == (x.born : Int)) = some i ∧ ∃ hi : i < L.length, L[i] = x := by
    obtain ⟨i, hi, hix⟩ := List.getElem_of_mem hx
    refine ⟨i, ?_, hi, hix⟩
    unfold entsOf
    rw [List.findIdx?_toArray, List.findIdx?_map, List.findIdx?_eq_some_iff_getElem]
    refine ⟨hi, by simp [Ent.toEntry, hix], fun m hm => ?_⟩
    have hml : m < L.length := by omega
    have := List.pairwise_iff_getElem.1 hB.1 m i hml hi hm
    simp [Ent.toEntry]
    rw [hix] at this
    omega
  obtain ⟨i, hf, hi, hix⟩ := hidx
  have ha : (asIntOf (.int .i64 (x.born : Int))).run Tryd.prog w = .ok (.i64, (x.born : Int)) w := by kernel_rfl
  simp only [ha, Result.andThen_ok, hf, run_setObj_at h]
  congr 2
  unfold setE entsOf
  congr 1
  apply Array.ext_getElem?
  intro q
  simp only [Array.getElem?_modify, List.getElem?_toArray, List.getElem?_map]
  cases hq : L[q]? with
  | none => simp
  | some y =>
    by_cases hqi : i = q
    · subst hqi
      have : y = x := by rw [List.getElem?_eq_getElem hi, hix] at hq; exact (Option.some.inj hq).symm
      subst this
      simp [Ent.toEntry]
    · have hne : y.born ≠ x.born := fun e => by
        have := born_unique hB (List.mem_of_getElem? hq) hx e
        subst this
        have hql : q < L.length := (List.getElem?_eq_some_iff.1 hq).1
        rcases Nat.lt_or_gt_of_ne hqi with hlt | hlt
        · have := List.pairwise_iff_getElem.1 hB.1 i q hi hql hlt
          rw [hix, (List.getElem?_eq_some_iff.1 hq).2] at this
          exact this rfl
        · have := List.pairwise_iff_getElem.1 hB.1 q i hql hi hlt
          rw [hix, (List.getElem?_eq_some_iff.1 hq).2] at this
          exact this rfl
      simp [hqi, hne]

end Go.Proofs.YtghkdkdlbkmicaaDoor
