/- Rows of the call's own, behind what leaves them alone. -/
import Derived.Test.YtghkdkdlbkmicaaDoorBase
namespace Go.Proofs.YtghkdkdlbkmicaaDoor
open Go.RowKit

theorem ownsRow_mod {w w' : World} {base : Nat} {e : TypeId} {size : Nat} {v : Value} {n : Nat} {xs : List Value} {S : List Nat} (h : w.ownsRow base e size v n xs) (hm : Mod w w' S)
    (hS : ∀ q, v.ownBlock = some q → q ∉ S) : w'.ownsRow base e size v n xs := by
  obtain ⟨h1, h2⟩ := h
  refine ⟨h1, ?_⟩
  rcases h2 with h2 | ⟨g, cap, cur, rfl, hb, hh, r⟩
  · exact .inl h2
  · refine .inr ⟨g, cap, cur, rfl, hb, ?_, r⟩
    have hlt : g < w.heap.size := (Array.getElem?_eq_some_iff.1 hh).1
    rw [hm.same g hlt (hS g rfl)]
    exact hh

theorem cell_mod {w w' : World} {S : List Nat} {g j : Nat} {v : Value} (h : w.cell? ⟨g, j, none⟩ = some v) (hm : Mod w w' S) (hg : g ∉ S) : w'.cell? ⟨g, j, none⟩ = some v := by
  rw [World.cell?_of_block (w := w) (hm.same g (World.block_lt_of_cell? _ _ h) hg)]
  exact h

end Go.Proofs.YtghkdkdlbkmicaaDoor
