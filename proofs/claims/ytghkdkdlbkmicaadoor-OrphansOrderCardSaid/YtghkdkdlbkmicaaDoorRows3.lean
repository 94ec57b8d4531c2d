/- Rows of the call's own of whatever size of element; what is appended to them. -/
import Derived.Test.YtghkdkdlbkmicaaDoorRows2
import Derived.Maps.AppendAt
import Derived.Laws.AppendOwnNone
import Derived.Deep.AppendLies
import Derived.ArgAppend
namespace Go.Proofs.YtghkdkdlbkmicaaDoor
open Go.RowKit

/-- A slice that reads as these cells, m elements of so many cells each. -/
def Src (w : World) (size : Nat) (va : Value) (m : Nat) (news : List Value) : Prop :=
  (va = .slice none 0 0 ∧ m = 0 ∧ news = []) ∨
  ∃ b off c, va = .slice (some ⟨b, off, none⟩) m c ∧ m ≤ c ∧ news.length = m * size ∧ b < w.heap.size ∧ (∀ j u, news[j]? = some u → w.cell? ⟨b, off + j, none⟩ = some u) ∧ ∀ u ∈ news, u.oneCell' = true

theorem Src.mod {w w' : World} {size m : Nat} {va : Value} {news : List Value} {S : List Nat} (h : Src w size va m news) (hM : Mod w w' S) (hS : ∀ b, va.ownBlock = some b → b ∉ S) : Src w' size va m news := by
  rcases h with h | ⟨b, off, c, rfl, h0, h1, h4, h2, h3⟩
  · exact .inl h
  · exact .inr ⟨b, off, c, rfl, h0, h1, Nat.lt_of_lt_of_le h4 hM.size, fun j u hu => cell_mod (h2 j u hu) hM (hS b rfl), h3⟩
theorem Src.lt {w : World} {size m : Nat} {va : Value} {news : List Value} (h : Src w size va m news) {b : Nat} (hb : va.ownBlock = some b) : b < w.heap.size := by
  rcases h with ⟨rfl, _⟩ | ⟨b', off, c, rfl, h0, h1, h4, h2, h3⟩
  · cases hb
  · cases hb
    exact h4
theorem Src.form {w : World} {size m : Nat} {va : Value} {news : List Value} (h : Src w size va m news) : ∃ pa c, va = .slice pa m c ∧ m ≤ c := by
  rcases h with ⟨rfl, rfl, _⟩ | ⟨b', off, c, rfl, h0, _⟩
  · exact ⟨_, _, rfl, Nat.le_refl _⟩
  · exact ⟨_, _, rfl, h0⟩

theorem ownsRow_zero {w : World} {base : Nat} {e : TypeId} {size : Nat} {v : Value} {n : Nat} {xs : List Value} (h : w.ownsRow base e size v n xs) : w.ownsRow 0 e size v n xs := by
  obtain ⟨h1, h2⟩ := h
  refine ⟨h1, ?_⟩
  rcases h2 with h2 | ⟨g, cap, cur, h3, h4, h5⟩
  · exact .inl h2
  · exact .inr ⟨g, cap, cur, h3, Nat.zero_le _, h5⟩

/-- A row of the call's own. -/
def Row (w : World) (E : TypeId) (size : Nat) (v : Value) (n : Nat) (xs : List Value) : Prop := w.ownsRow 0 E size v n xs ∧ ∀ u ∈ xs, u.oneCell' = true

section
variable {w w' : World} {E : TypeId} {size n : Nat} {v : Value} {xs : List Value}
theorem Row.nil (w : World) (E : TypeId) (size : Nat) : Row w E size (.slice none 0 0) 0 [] := ⟨World.ownsRow_nil w 0 E size, by simp⟩
theorem Row.mod (h : Row w E size v n xs) {S : List Nat} (hM : Mod w w' S) (hS : ∀ b, v.ownBlock = some b → b ∉ S) : Row w' E size v n xs := ⟨ownsRow_mod h.1 hM hS, h.2⟩
theorem Row.lt (h : Row w E size v n xs) {b : Nat} (hb : v.ownBlock = some b) : b < w.heap.size := (h.1.lt b hb).2
theorem Row.len (h : Row w E size v n xs) : xs.length = n * size := h.1.1
theorem Row.form (h : Row w E size v n xs) : ∃ pa c, v = .slice pa n c ∧ n ≤ c := by
  rcases h.1.2 with ⟨rfl, rfl⟩ | ⟨g, cap, cur, rfl, _, _, h3, _⟩
  · exact ⟨_, _, rfl, Nat.le_refl _⟩
  · exact ⟨_, _, rfl, h3⟩
theorem Row.src (h : Row w E size v n xs) : Src w size v n xs := by
  rcases h.1.2 with ⟨rfl, rfl⟩ | ⟨g, cap, cur, rfl, _, hh, h3, h4, h5, h6⟩
  · left
    have := h.1.1
    simp at this
    exact ⟨rfl, rfl, this⟩
  · right
    refine ⟨g, 0, cap, rfl, h3, h.1.1, (Array.getElem?_eq_some_iff.1 hh).1, fun j u hu => ?_, h.2⟩
    have := h.1.cells (g := g) rfl j u hu
    rw [Addr.add_lit] at this
    exact this
end

theorem Src.cell {w : World} {size m : Nat} {va : Value} {news : List Value} (h : Src w size va m news) {j : Nat} {u : Value} (hu : news[j]? = some u) :
    ∃ b off c, va = .slice (some ⟨b, off, none⟩) m c ∧ m ≤ c ∧ w.cell? ⟨b, off + j, none⟩ = some u := by
  rcases h with ⟨_, _, rfl⟩ | ⟨b, off, c, rfl, h0, h1, h4, h2, h3⟩
  · simp at hu
  · exact ⟨b, off, c, rfl, h0, h2 j u hu⟩

/-- append(own, source...). -/
theorem wpList_append_row {P : Program} (w : World) {ops : Array Oper} {rest : List Oper} {o : Oper} {a : Act} {Q : Exit → Act → World → Prop}
    (hg : o.guard = none) (s x : Operand) (t : TypeId) (hop : o.op = Op.call { callee := Callee.builtin Builtin.append, args := #[s, x], argTypes := #[t, t] })
    (e : TypeId) (i : TypeInfo) (z : Value) (size bytes : Nat) (h1 : P.underlying t = some (.slice e)) (h2 : P.info? e = some i) (h3 : i.zero = some z) (h4 : i.size = size) (h5 : i.bytes = bytes) (h6 : z.cells.size = size) (hsz : 0 < size) (hby : bytes ≤ 1000)
    (v : Value) (n : Nat) (xs : List Value) (hs : a.eval s = v) (hown : Row w e size v n xs) (hn : n ≤ 100000)
    (va : Value) (m : Nat) (news : List Value) (hx : a.eval x = va) (hl : Src w size va m news) (hm : m ≤ 100000)
    (hk : ∀ v' w', Row w' e size v' (n + m) (xs ++ news) → Mod w w' v.ownBlock.toList → (∀ b, v'.ownBlock = some b → v.ownBlock = some b ∨ b = w.heap.size) → wpList P ops Q rest (a.put o.dst v') w') :
    wpList P ops Q (o :: rest) a w := by
  rcases hl with ⟨rfl, rfl, rfl⟩ | ⟨b, off, c, rfl, hmc, hnl, hb, hcell, hone⟩
  · refine wpList_append_own_none (w := w) hg s x t hop 0 e i size h1 h2 v n xs hs hown.1 hx ?_
    exact hk v w (by simpa using hown) (Mod.refl _ _) (fun _ h => .inl h)
  · refine wpList_append_own_at w hg s x t hop 0 e i z size bytes h1 h2 h3 h4 h5 h6 hsz v n xs hs hown.1 ⟨b, off, none⟩ m c news hx hnl (fun j u hu => by rw [Addr.add_lit]; exact hcell j u hu) hone (by simp only [maxLen]; omega) ?_ (Nat.zero_le _) ?_
    · exact Nat.le_trans (Nat.mul_le_mul_left _ hby) (by omega)
    · intro v' w' hown' hgrow hnil hat
      refine hk v' w' ⟨hown', fun u hu => ?_⟩ (Mod.of_grown hgrow) (fun y hy => ?_)
      · rcases List.mem_append.1 hu with h | h
        · exact hown.2 u h
        · exact hone u h
      · rcases hat with e | e
        · exact .inl (by rw [← e]; exact hy)
        · rw [e] at hy
          cases hy
          exact .inr rfl

/-- A new block that holds one element. -/
theorem Src.one {w : World} {b size : Nat} {cs : Array Value} {T : TypeId} (h : Has w b (.cells cs T)) (hs : cs.size = size) (h1 : ∀ u ∈ cs.toList, u.oneCell' = true) : Src w size (.slice (some ⟨b, 0, none⟩) 1 1) 1 cs.toList := by
  refine .inr ⟨b, 0, 1, rfl, Nat.le_refl _, by simp [hs], h.lt, fun j u hu => ?_, h1⟩
  rw [h.cell]
  simpa using hu

end Go.Proofs.YtghkdkdlbkmicaaDoor
