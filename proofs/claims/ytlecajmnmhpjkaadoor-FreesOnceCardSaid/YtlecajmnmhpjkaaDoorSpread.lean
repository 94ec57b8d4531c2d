/- A row of the call's own, to which a slice that lies somewhere is appended. -/
import Derived.Test.YtlecajmnmhpjkaaDoorLies
import Derived.Maps.AppendAt
import Derived.Laws.AppendOwnNone
namespace Go.Proofs.YtlecajmnmhpjkaaDoor
open Go.RowKit

theorem wpList_append_spread {P : Program} (w : World) {ops : Array Oper} {rest : List Oper} {o : Oper} {a : Act} {Q : Exit → Act → World → Prop}
    (hg : o.guard = none) (s x : Operand) (t : TypeId) (hop : o.op = Op.call { callee := Callee.builtin Builtin.append, args := #[s, x], argTypes := #[t, t] })
    (e : TypeId) (i : TypeInfo) (z : Value) (bytes : Nat) (h1 : P.underlying t = some (.slice e)) (h2 : P.info? e = some i) (h3 : i.zero = some z) (h4 : i.size = 1) (h5 : i.bytes = bytes) (h6 : z.cells.size = 1) (hby : bytes ≤ 8)
    (base : Nat) (v : Value) (xs : List Int) (hs : a.eval s = v) (hown : w.ownsRow base e 1 v xs.length (xs.map (Value.int .i64))) (hbase : base ≤ w.heap.size) (hxs : xs.length ≤ 1000)
    (g : Option Nat) (va : Value) (ys : List Int) (hx : a.eval x = va) (hl : Lies w g va ys) (hys : ys.length ≤ 1000)
    (hk : ∀ v' w', w'.ownsRow base e 1 v' (xs ++ ys).length ((xs ++ ys).map (Value.int .i64)) → Mod w w' v.ownBlock.toList → (∀ b, v'.ownBlock = some b → v.ownBlock = some b ∨ b = w.heap.size) → wpList P ops Q rest (a.put o.dst v') w') :
    wpList P ops Q (o :: rest) a w := by
  rcases hl with ⟨rfl, rfl, rfl⟩ | ⟨b, off, cap, cur, T, rfl, rfl, hB, hcap, hsz, hcs⟩
  · refine wpList_append_own_none (w := w) hg s x t hop base e i 1 h1 h2 v xs.length (xs.map (Value.int .i64)) hs hown hx ?_
    exact hk v w (by simpa using hown) (Mod.refl _ _) (fun _ h => .inl h)
  · have hcell : ∀ j u, (ys.map (Value.int .i64))[j]? = some u → w.cell? ((⟨b, off, none⟩ : Addr).add j) = some u := by
      intro j u hj
      rw [Addr.add_lit, hB.cell]
      rw [List.getElem?_map] at hj
      rcases Nat.lt_or_ge j ys.length with hlt | hge
      · rw [List.getElem?_eq_getElem hlt] at hj
        simp at hj
        subst hj
        exact hcs j hlt
      · simp [List.getElem?_eq_none hge] at hj
    have hone : ∀ u ∈ ys.map (Value.int .i64), u.oneCell' = true := by
      intro u hu
      simp at hu
      obtain ⟨y, _, rfl⟩ := hu
      rfl
    refine wpList_append_own_at w hg s x t hop base e i z 1 bytes h1 h2 h3 h4 h5 h6 (by decide) v xs.length (xs.map (Value.int .i64)) hs hown ⟨b, off, none⟩ ys.length cap (ys.map (Value.int .i64)) hx (by simp) hcell hone (by simp only [maxLen]; omega) ?_ hbase ?_
    · exact Nat.le_trans (Nat.mul_le_mul_left _ hby) (by omega)
    · intro v' w' hown' hgrow hnil hat
      refine hk v' w' (by simpa using hown') (Mod.of_grown hgrow) (fun b hb => ?_)
      rcases hat with e | e
      · exact .inl (by rw [← e]; exact hb)
      · rw [e] at hb
        cases hb
        exact .inr rfl

/-- How often each of n slots has come. -/
structure CountArr (arr : Array Value) (n : Nat) (R : List Int) : Prop where
  size : arr.size = n
  at_ : ∀ j, j < n → arr[j]? = some (.int .i64 (R.count (j : Int) : Nat))
theorem CountArr.new (n : Nat) : CountArr (Array.replicate n (.int .i64 0)) n [] := ⟨by simp, fun j hj => by simp [hj]⟩
theorem CountArr.set {arr : Array Value} {n : Nat} {R : List Int} (h : CountArr arr n R) {s : Nat} (hs : s < n) : CountArr (arr.setIfInBounds s (.int .i64 ((R.count (s : Int) : Nat) + 1))) n (R ++ [(s : Int)]) := by
  refine ⟨by simpa using h.size, fun j hj => ?_⟩
  rw [Array.getElem?_setIfInBounds]
  have hsz := h.size
  by_cases e : s = j
  · subst e
    rw [if_pos rfl, if_pos (by omega)]
    simp [List.count_append]
  · rw [if_neg e, h.at_ j hj]
    have : List.count (j : Int) [(s : Int)] = 0 := by
      rw [List.count_singleton]
      simp
      omega
    rw [List.count_append, this]
    rfl

end Go.Proofs.YtlecajmnmhpjkaaDoor
