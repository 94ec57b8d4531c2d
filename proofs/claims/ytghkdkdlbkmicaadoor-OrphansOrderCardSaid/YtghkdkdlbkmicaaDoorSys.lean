/- A law's own memory. -/
import Derived.Test.YtghkdkdlbkmicaaDoorWords
namespace Go.Proofs.YtghkdkdlbkmicaaDoor
open Go.RowKit

/-- The world w of a law that began in w0: its memory m reads as σ; nothing that was there has turned. -/
structure Sys (w0 w : World) (m mb : Nat) (σ : MS) : Prop where
  fields : FieldsAt w0
  mem : MemAt w m mb σ
  mod : Mod w0 w []
  lo : w0.heap.size ≤ m
  lob : w0.heap.size ≤ mb

theorem Sys.fieldsAt {w0 w : World} {m mb : Nat} {σ : MS} (h : Sys w0 w m mb σ) : FieldsAt w := h.fields.mod h.mod (by simp)
theorem Sys.g1 {w0 w : World} {m mb : Nat} {σ : MS} (h : Sys w0 w m mb σ) : 0 ≠ m := by
  have := h.fields.lt
  have := h.lo
  omega
theorem Sys.g2 {w0 w : World} {m mb : Nat} {σ : MS} (h : Sys w0 w m mb σ) : 0 ≠ mb := by
  have := h.fields.lt
  have := h.lob
  omega
theorem Sys.next {w0 w w' : World} {m mb : Nat} {σ σ' : MS} {S : List Nat} (h : Sys w0 w m mb σ) (hM : Mod w w' S) (hS : ∀ b ∈ S, w0.heap.size ≤ b) (hm : MemAt w' m mb σ') : Sys w0 w' m mb σ' :=
  ⟨h.fields, hm, h.mod.call hM (fun b hb => .inr (hS b hb)), h.lo, h.lob⟩
theorem Sys.keep {w0 w w' : World} {m mb : Nat} {σ : MS} {S : List Nat} (h : Sys w0 w m mb σ) (hM : Mod w w' S) (hS : ∀ b ∈ S, w0.heap.size ≤ b) (h1 : m ∉ S) (h2 : mb ∉ S) : Sys w0 w' m mb σ :=
  h.next hM hS (h.mem.mod hM h1 h2)

theorem slotW_range (x : Int) : -1 ≤ slotW x ∧ slotW x < 256 := by
  unfold slotW
  split
  · rename_i h
    simp [mayS] at h
    omega
  · omega

theorem sys_new {w0 w : World} (hf : FieldsAt w0) (hM : Mod w0 w []) : Calls Tryd.prog 19 #[] w fun e w' =>
    ∃ m mb, e = .returned (.pointer (some ⟨m, 0, none⟩)) ∧ Sys w0 w' m mb MS.new ∧ Mod w w' [] ∧ w.heap.size ≤ m ∧ w.heap.size ≤ mb := by
  refine (new_any w).mono ?_
  rintro e w' ⟨m, mb, he, h1, h2, hM', hm⟩
  have := hM.size
  exact ⟨m, mb, he, ⟨hf, hm, hM.call hM' (by simp), by omega, by omega⟩, hM', h1, h2⟩

end Go.Proofs.YtghkdkdlbkmicaaDoor
