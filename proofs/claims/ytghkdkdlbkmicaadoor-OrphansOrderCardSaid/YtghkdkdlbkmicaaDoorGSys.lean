/- A law's own memory, by its words alone. -/
import Derived.Test.YtghkdkdlbkmicaaDoorSys
namespace Go.Proofs.YtghkdkdlbkmicaaDoor
open Go.RowKit

/-- The law's own memory has these words. -/
def GSys (w0 w : World) (m mb : Nat) (g : Int → Int → Int → Int) : Prop := ∃ σ, Sys w0 w m mb σ ∧ σ.g = g
def gput (g : Int → Int → Int → Int) (k a f v : Int) : Int → Int → Int → Int := fun k' a' f' => if k' = k ∧ a' = a ∧ f' = f then v else g k' a' f'

section
variable {w0 w : World} {m mb : Nat} {g : Int → Int → Int → Int} (h : GSys w0 w m mb g)
include h
theorem GSys.lo : w0.heap.size ≤ m ∧ w0.heap.size ≤ mb ∧ m < w.heap.size ∧ mb < w.heap.size ∧ w0.heap.size ≤ w.heap.size := by
  obtain ⟨σ, h, _⟩ := h
  exact ⟨h.lo, h.lob, h.mem.lt, h.mem.ltb, h.mod.size⟩
theorem GSys.mod : Mod w0 w [] := by
  obtain ⟨σ, h, _⟩ := h
  exact h.mod
theorem GSys.range (k a f : Int) : 0 ≤ g k a f ∧ g k a f < 18446744073709551616 := by
  obtain ⟨σ, h, rfl⟩ := h
  exact h.mem.range k a f
theorem GSys.keep {w' : World} {S : List Nat} (hM : Mod w w' S) (hS : ∀ b ∈ S, w0.heap.size ≤ b) (h1 : m ∉ S) (h2 : mb ∉ S) : GSys w0 w' m mb g := by
  obtain ⟨σ, h, rfl⟩ := h
  exact ⟨σ, h.keep hM hS h1 h2, rfl⟩
theorem GSys.keep0 {w' : World} (hM : Mod w w' []) : GSys w0 w' m mb g := h.keep hM (by simp) (by simp) (by simp)
theorem gsys_load (k a f : Int) : Calls Tryd.prog 14 #[.pointer (some ⟨m, 0, none⟩), K k a f] w fun e w' => e = .returned (.int .u64 (g k a f)) ∧ GSys w0 w' m mb g ∧ Mod w w' [m] := by
  obtain ⟨σ, h, rfl⟩ := h
  refine (load_any w m mb σ h.mem k a f).mono ?_
  rintro e w' ⟨he, hM, hm⟩
  exact ⟨he, ⟨_, h.next hM (by simpa using h.lo) hm, rfl⟩, hM⟩
theorem gsys_store (k a f v : Int) (hv0 : 0 ≤ v) (hv1 : v < 18446744073709551616) (hmay : mayA k a f = true) :
    Calls Tryd.prog 11 #[.pointer (some ⟨m, 0, none⟩), K k a f, .int .u64 v] w fun e w' => e = .returned (.tuple #[]) ∧ GSys w0 w' m mb (gput g k a f v) ∧ Mod w w' [m, mb] := by
  obtain ⟨σ, h, rfl⟩ := h
  refine (store_any w m mb σ h.mem k a f v hv0 hv1 hmay).mono ?_
  rintro e w' ⟨he, hM, hm⟩
  have h1 := h.lo
  have h2 := h.lob
  refine ⟨he, ⟨_, h.next hM (by intro b hb; simp at hb; omega) hm, ?_⟩, hM⟩
  unfold MS.store
  rw [if_pos hmay]
  rfl
end

theorem gsys_new {w0 w : World} (hf : FieldsAt w0) (hM : Mod w0 w []) : Calls Tryd.prog 19 #[] w fun e w' =>
    ∃ m mb, e = .returned (.pointer (some ⟨m, 0, none⟩)) ∧ GSys w0 w' m mb (fun _ _ _ => 0) ∧ Mod w w' [] ∧ w.heap.size ≤ m ∧ w.heap.size ≤ mb := by
  refine (sys_new hf hM).mono ?_
  rintro e w' ⟨m, mb, he, h, h1⟩
  exact ⟨m, mb, he, ⟨_, h, rfl⟩, h1⟩

end Go.Proofs.YtghkdkdlbkmicaaDoor
