/- Rows of numbers that lie somewhere in a block: a slice that is cut at its front and appended to. -/
import Derived.Test.YtlecajmnmhpjkaaDoorBase
import Derived.ArgAppend
namespace Go.Proofs.YtlecajmnmhpjkaaDoor
open Go.RowKit

/-- The slice v reads as xs; its block is g (none: nil). -/
def Lies (w : World) (g : Option Nat) (v : Value) (xs : List Int) : Prop :=
  (g = none ∧ v = .slice none 0 0 ∧ xs = []) ∨
  ∃ (b off cap : Nat) (cur : Array Value) (T : TypeId), g = some b ∧ v = .slice (some ⟨b, off, none⟩) xs.length cap ∧ Has w b (.cells cur T) ∧ xs.length ≤ cap ∧ off + cap ≤ cur.size ∧
    ∀ j (h : j < xs.length), cur[off + j]? = some (.int .i64 xs[j])

theorem Lies.nil (w : World) : Lies w none (.slice none 0 0) [] := .inl ⟨rfl, rfl, rfl⟩
theorem Lies.mod {w w' : World} {g : Option Nat} {v : Value} {xs : List Int} {S : List Nat} (h : Lies w g v xs) (hM : Mod w w' S) (hS : ∀ b, g = some b → b ∉ S) : Lies w' g v xs := by
  rcases h with h | ⟨b, off, cap, cur, T, e1, e2, e3, e4⟩
  · exact .inl h
  · exact .inr ⟨b, off, cap, cur, T, e1, e2, e3.mod hM (hS b e1), e4⟩
theorem Lies.lt {w : World} {g : Option Nat} {v : Value} {xs : List Int} (h : Lies w g v xs) {b : Nat} (e : g = some b) : b < w.heap.size := by
  rcases h with ⟨h, _⟩ | ⟨b', off, cap, cur, T, e1, e2, e3, e4⟩
  · rw [h] at e
    cases e
  · rw [e1] at e
    cases e
    exact e3.lt
theorem Lies.form {w : World} {g : Option Nat} {v : Value} {xs : List Int} (h : Lies w g v xs) : ∃ pa cap, v = .slice pa xs.length cap ∧ xs.length ≤ cap := by
  rcases h with ⟨_, h, h'⟩ | ⟨b', off, cap, cur, T, e1, e2, e3, e4, e5⟩
  · subst h'
    exact ⟨_, _, h, Nat.le_refl _⟩
  · exact ⟨_, _, e2, e4⟩
theorem Lies.slice {w : World} {g : Option Nat} {v : Value} {xs : List Int} (h : Lies w g v xs) : ∃ pa n cap, v = .slice pa n cap := by
  obtain ⟨pa, cap, e, _⟩ := h.form
  exact ⟨pa, _, cap, e⟩
theorem Lies.cell {w : World} {g : Option Nat} {v : Value} {xs : List Int} (h : Lies w g v xs) {j : Nat} (hj : j < xs.length) :
    ∃ b off cap, g = some b ∧ v = .slice (some ⟨b, off, none⟩) xs.length cap ∧ w.cell? ⟨b, off + j, none⟩ = some (.int .i64 xs[j]) ∧ xs.length ≤ cap := by
  rcases h with ⟨_, h, h'⟩ | ⟨b, off, cap, cur, T, e1, e2, e3, e4, e5, e6⟩
  · subst h'
    simp at hj
  · exact ⟨b, off, cap, e1, e2, by rw [e3.cell]; exact e6 j hj, e4⟩
theorem Lies.tail {w : World} {g : Option Nat} {v : Value} {x : Int} {xs : List Int} (h : Lies w g v (x :: xs)) :
    ∃ b off cap, g = some b ∧ v = .slice (some ⟨b, off, none⟩) (xs.length + 1) cap ∧ xs.length + 1 ≤ cap ∧ w.cell? ⟨b, off, none⟩ = some (.int .i64 x) ∧ Lies w g (.slice (some ⟨b, off + 1, none⟩) xs.length (cap - 1)) xs ∧ (cap = 1 → Lies w g (.slice (some ⟨b, off, none⟩) xs.length 0) xs) := by
  rcases h with ⟨_, h, h'⟩ | ⟨b, off, cap, cur, T, e1, e2, e3, e4, e5, e6⟩
  · cases h'
  · simp only [List.length_cons] at e2 e4
    refine ⟨b, off, cap, e1, e2, e4, ?_, .inr ⟨b, off + 1, cap - 1, cur, T, e1, rfl, e3, by omega, by omega, fun j hj => ?_⟩, fun hc => .inr ⟨b, off, 0, cur, T, e1, rfl, e3, by omega, by omega, fun j hj => by omega⟩⟩
    · rw [e3.cell]
      exact e6 0 (by simp)
    · have := e6 (j + 1) (by simpa using hj)
      rw [show off + 1 + j = off + (j + 1) by omega]
      simpa using this
theorem Lies.of_own {w : World} {base : Nat} {e : TypeId} {v : Value} {n : Nat} {xs : List Int} (h : w.ownsRow base e 1 v n (xs.map (Value.int .i64))) :
    Lies w v.ownBlock v xs ∧ (∀ b, v.ownBlock = some b → base ≤ b) := by
  obtain ⟨hl, h2⟩ := h
  simp at hl
  rcases h2 with ⟨rfl, rfl⟩ | ⟨g, cap, cur, rfl, hb, hh, h3, h4, h5, h6⟩
  · refine ⟨.inl ⟨rfl, rfl, List.length_eq_zero_iff.1 hl⟩, fun b hb => by cases hb⟩
  · subst hl
    refine ⟨.inr ⟨g, 0, cap, cur, e, rfl, rfl, hh, h3, by omega, fun j hj => ?_⟩, fun b hb' => by cases hb'; exact hb⟩
    have h7 : (cur.toList.take (xs.length * 1))[j]? = some (Value.int .i64 xs[j]) := by
      rw [h6]
      simp [hj]
    rw [List.getElem?_take_of_lt (by omega)] at h7
    simpa using h7
theorem Mod.of_grown {w w' : World} {r : Option Nat} (h : w.grownBy w' r) : Mod w w' r.toList :=
  ⟨h.size, fun b hb hn => h.block b hb (fun e => hn (by rw [← e]; simp)), h.os, h.tape, h.output⟩

/-- A number appended: one way on. -/
theorem wpList_append_lies1 {P : Program} (w : World) {ops : Array Oper} {rest : List Oper} {o : Oper} {a : Act} {Q : Exit → Act → World → Prop}
    (hg : o.guard = none) (s x : Operand) (t : TypeId) (hop : o.op = Op.call { callee := Callee.builtin Builtin.append, args := #[s, x], argTypes := #[t, t] })
    (e : TypeId) (i : TypeInfo) (z : Value) (bytes : Nat) (h1 : P.underlying t = some (.slice e)) (h2 : P.info? e = some i) (h3 : i.zero = some z) (h4 : i.size = 1) (h5 : i.bytes = bytes) (h6 : z.cells.size = 1) (hby : bytes ≤ 8)
    (g : Option Nat) (v : Value) (xs : List Int) (hs : a.eval s = v) (h : Lies w g v xs) (hlen : xs.length ≤ 1000)
    (nb c : Nat) (y : Int) (hx : a.eval x = .slice (some ⟨nb, 0, none⟩) 1 c) (hc : w.cell? ⟨nb, 0, none⟩ = some (.int .i64 y))
    (hk : ∀ v' w' g', Lies w' g' v' (xs ++ [y]) → Mod w w' g.toList → (∀ b, g' = some b → g = some b ∨ w.heap.size ≤ b) → wpList P ops Q rest (a.put o.dst v') w') :
    wpList P ops Q (o :: rest) a w := by
  have hcell : ∀ j u, [Value.int .i64 y][j]? = some u → w.cell? ((⟨nb, 0, none⟩ : Addr).add j) = some u := by
    intro j u hj
    cases j with
    | zero =>
      simp at hj
      subst hj
      simpa [Addr.add] using hc
    | succ j => simp at hj
  have hone : ∀ u ∈ [Value.int .i64 y], u.oneCell' = true := by
    intro u hu
    simp at hu
    subst hu
    rfl
  have hb2 : (xs.length + 1) * bytes ≤ 140737488355328 := Nat.le_trans (Nat.mul_le_mul_left _ hby) (by omega)
  rcases h with ⟨rfl, rfl, rfl⟩ | ⟨b, off, cap, cur, T, rfl, rfl, hB, hcap, hsz, hcs⟩
  · refine wpList_append_grows w hg s x t hop e i z 1 bytes h1 h2 h3 h4 h5 h6 (by decide) none 0 0 [] hs (fun _ => ⟨rfl, rfl⟩) rfl (fun b hb => by cases hb) ⟨nb, 0, none⟩ 1 c [.int .i64 y] hx rfl hcell hone (by omega) (by simp [maxLen]) hb2 ?_
    intro v' w' hown hgrow
    have hl := Lies.of_own (xs := [y]) (by simpa using hown)
    exact hk v' w' _ hl.1 (Mod.of_grown hgrow) (fun b hb => .inr (hl.2 b hb))
  · have hcells : ∀ j u, (xs.map (Value.int .i64))[j]? = some u → w.cell? ⟨b, off + j, none⟩ = some u := by
      intro j u hj
      rw [hB.cell]
      rw [List.getElem?_map] at hj
      rcases Nat.lt_or_ge j xs.length with hlt | hge
      · rw [List.getElem?_eq_getElem hlt] at hj
        simp at hj
        subst hj
        exact hcs j hlt
      · simp [List.getElem?_eq_none hge] at hj
    refine wpList_append_arg w hg s x t hop e i z 1 bytes h1 h2 h3 h4 h5 h6 (by decide) b off xs.length cap (xs.map (Value.int .i64)) hs (by simp) hcells ⟨nb, 0, none⟩ 1 c [.int .i64 y] hx rfl hcell hone ?_ (by simp only [maxLen]; omega) hb2 ?_ ?_
    · intro hr j hj
      simp at hj
      subst hj
      refine ⟨?_, hB.frozen _⟩
      rw [hB.cell, Array.getElem?_eq_getElem (by omega)]
      rfl
    · intro hr
      have hM : Mod w (w.setCell ⟨b, off + xs.length * 1, none⟩ (.int .i64 y)) [b] := (Mod.refl w [b]).setCell (.inl (by simp)) _
      refine hk _ _ (some b) (.inr ⟨b, off, cap, _, T, rfl, by simp, hB.set_same _ _, by simpa using hr, by simpa using hsz, fun j hj => ?_⟩) hM (fun _ h => .inl h)
      rw [Nat.mul_one, Array.getElem?_setIfInBounds]
      rcases Nat.lt_or_ge j xs.length with hlt | hge
      · rw [if_neg (by omega), List.getElem_append_left hlt]
        exact hcs j hlt
      · have hj' : j = xs.length := by
          simp at hj
          omega
        subst hj'
        rw [if_pos rfl, if_pos (by omega)]
        simp
    · intro hr v' w' hown hgrow
      have hl := Lies.of_own (xs := xs ++ [y]) (by simpa using hown)
      exact hk v' w' _ hl.1 ((Mod.of_grown hgrow).wider (by simp)) (fun b hb => .inr (hl.2 b hb))

end Go.Proofs.YtlecajmnmhpjkaaDoor
