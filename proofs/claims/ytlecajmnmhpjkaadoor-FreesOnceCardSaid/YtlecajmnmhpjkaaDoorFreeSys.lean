/- A law's own memory, with the operations on the list of free slots in it. -/
import Derived.Test.YtlecajmnmhpjkaaDoorFrees
namespace Go.Proofs.YtlecajmnmhpjkaaDoor
open Go.RowKit

/-- The world w of a law that began in w0: its memory m reads as σ; nothing that was there has turned. -/
structure Sys (w0 w : World) (m mb : Nat) (σ : MS) : Prop where
  fields : FieldsAt w0
  mem : MemAt w m mb σ
  mod : Mod w0 w []
  lo : w0.heap.size ≤ m
  lob : w0.heap.size ≤ mb

theorem Sys.fieldsAt {w0 w : World} {m mb : Nat} {σ : MS} (h : Sys w0 w m mb σ) : FieldsAt w := h.fields.mod h.mod (by simp)
theorem Sys.g1 {w0 w : World} {m mb : Nat} {σ : MS} (h : Sys w0 w m mb σ) : 0 ≠ m := by
  have := h.fields.lt
  have := h.lo
  omega
theorem Sys.g2 {w0 w : World} {m mb : Nat} {σ : MS} (h : Sys w0 w m mb σ) : 0 ≠ mb := by
  have := h.fields.lt
  have := h.lob
  omega
theorem Sys.next {w0 w w' : World} {m mb : Nat} {σ σ' : MS} {S : List Nat} (h : Sys w0 w m mb σ) (hM : Mod w w' S) (hS : ∀ b ∈ S, w0.heap.size ≤ b) (hm : MemAt w' m mb σ') : Sys w0 w' m mb σ' :=
  ⟨h.fields, hm, h.mod.call hM (fun b hb => .inr (hS b hb)), h.lo, h.lob⟩
theorem Sys.keep {w0 w w' : World} {m mb : Nat} {σ : MS} {S : List Nat} (h : Sys w0 w m mb σ) (hM : Mod w w' S) (hS : ∀ b ∈ S, w0.heap.size ≤ b) (h1 : m ∉ S) (h2 : mb ∉ S) : Sys w0 w' m mb σ :=
  h.next hM hS (h.mem.mod hM h1 h2)

theorem slotW_range (x : Int) : -1 ≤ slotW x ∧ slotW x < 256 := by
  unfold slotW
  split
  · rename_i h
    simp [mayS] at h
    omega
  · omega

theorem PopS.Ok.step {p : PopS} (h : p.Ok) {σ : MS} (hr : ∀ k a f, 0 ≤ σ.g k a f ∧ σ.g k a f < 18446744073709551616) : (p.step σ).1.Ok := by
  obtain ⟨h1, h2, h3, h4, h5⟩ := h
  have r1 := hr 0 0 0
  have r2 := slotW_range (σ.g 9 (slotW p.head) 2)
  unfold PopS.step
  split
  · refine ⟨?_, r1.1, r1.2, h4, h5⟩
    simp only
    split <;> simp
  · split
    · exact ⟨by simp, h2, h3, r2.1, by simp only; omega⟩
    · split
      · simp only
        split
        · exact ⟨by simp, h2, h3, h4, h5⟩
        · exact ⟨by simp, h2, h3, h4, h5⟩
      · exact ⟨h1, h2, h3, h4, h5⟩
theorem PushS.Ok.step {p : PushS} (h : p.Ok) {σ : MS} (hr : ∀ k a f, 0 ≤ σ.g k a f ∧ σ.g k a f < 18446744073709551616) : (p.step σ).1.Ok := by
  obtain ⟨h1, h2, h3, h4⟩ := h
  have r1 := hr 0 0 0
  unfold PushS.step
  split
  · exact ⟨by simp, r1.1, r1.2, h4⟩
  · split
    · exact ⟨by simp, h2, h3, h4⟩
    · split
      · refine ⟨?_, h2, h3, h4⟩
        simp only
        split <;> simp
      · exact ⟨h1, h2, h3, h4⟩
theorem PopS.new_ok : PopS.new.Ok := ⟨by simp [PopS.new], by simp [PopS.new], by simp [PopS.new], by simp [PopS.new], by simp [PopS.new]⟩
theorem PushS.new_ok {s : Int} (h : mayS s = true) : (PushS.new s).Ok := ⟨by simp [PushS.new], by simp [PushS.new], by simp [PushS.new], h⟩

section
variable {w0 w : World} {m mb b : Nat} {σ : MS} (h : Sys w0 w m mb σ)
include h

theorem sys_popStep {p : PopS} (hp : p.Ok) (hb : Has w b p.obj) (lo : w0.heap.size ≤ b) (n1 : b ≠ m) (n2 : b ≠ mb) :
    Calls Tryd.prog 23 #[.pointer (some ⟨b, 0, none⟩), .pointer (some ⟨m, 0, none⟩)] w fun e w' =>
      e = .returned (.bool ((p.step σ).1.line == 0)) ∧ Sys w0 w' m mb (p.step σ).2 ∧ Has w' b (p.step σ).1.obj ∧ Mod w w' [m, mb, b] := by
  have := h.fields.lt
  refine (popStep_any w h.fieldsAt b m mb σ p hp hb h.mem n1 n2 h.g1 (by omega) h.g2).mono ?_
  rintro e w' ⟨he, hM, hm, hb'⟩
  refine ⟨he, h.next hM ?_ hm, hb', hM⟩
  have := h.lo
  have := h.lob
  intro c hc
  simp at hc
  omega

theorem sys_pushStep {p : PushS} (hp : p.Ok) (hb : Has w b p.obj) (lo : w0.heap.size ≤ b) (n1 : b ≠ m) (n2 : b ≠ mb) :
    Calls Tryd.prog 21 #[.pointer (some ⟨b, 0, none⟩), .pointer (some ⟨m, 0, none⟩)] w fun e w' =>
      e = .returned (.bool ((p.step σ).1.line == 0)) ∧ Sys w0 w' m mb (p.step σ).2 ∧ Has w' b (p.step σ).1.obj ∧ Mod w w' [m, mb, b] := by
  have := h.fields.lt
  refine (pushStep_any w h.fieldsAt b m mb σ p hp hb h.mem n1 n2 h.g1 (by omega)).mono ?_
  rintro e w' ⟨he, hM, hm, hb'⟩
  refine ⟨he, h.next hM ?_ hm, hb', hM⟩
  have := h.lo
  have := h.lob
  intro c hc
  simp at hc
  omega

theorem sys_newPop : Calls Tryd.prog 22 #[] w fun e w' =>
    e = .returned (.pointer (some ⟨w.heap.size, 0, none⟩)) ∧ Sys w0 w' m mb σ ∧ Has w' w.heap.size PopS.new.obj ∧ Mod w w' [] := by
  refine (newPop_any w).mono ?_
  rintro e w' ⟨he, rfl⟩
  have hM : Mod w (w.alloc PopS.new.obj) [] := (Mod.refl _ _).alloc _
  exact ⟨he, h.keep hM (by simp) (by simp) (by simp), Has.new _ _, hM⟩

theorem sys_newPush {s : Int} (hs : mayS s = true) : Calls Tryd.prog 20 #[.int .i64 s] w fun e w' =>
    e = .returned (.pointer (some ⟨w.heap.size, 0, none⟩)) ∧ Sys w0 w' m mb σ ∧ Has w' w.heap.size (PushS.new s).obj ∧ Mod w w' [] := by
  refine (newPush_any w s hs).mono ?_
  rintro e w' ⟨he, rfl⟩
  have hM : Mod w (w.alloc (PushS.new s).obj) [] := (Mod.refl _ _).alloc _
  exact ⟨he, h.keep hM (by simp) (by simp) (by simp), Has.new _ _, hM⟩

theorem sys_popGot {p : PopS} (hb : Has w b p.obj) : Calls Tryd.prog 24 #[.pointer (some ⟨b, 0, none⟩)] w fun e w' =>
    e = .returned (.tuple #[.int .i64 p.slot, .bool p.ok]) ∧ Sys w0 w' m mb σ ∧ Mod w w' [] := by
  refine (popGot_any w b p hb).mono ?_
  rintro e w' ⟨he, n, rfl⟩
  have hM : Mod w (w.drewN n) [] := (Mod.refl _ _).drewN n
  exact ⟨he, h.keep hM (by simp) (by simp) (by simp), hM⟩
end

theorem sys_new {w0 w : World} (hf : FieldsAt w0) (hM : Mod w0 w []) : Calls Tryd.prog 19 #[] w fun e w' =>
    ∃ m mb, e = .returned (.pointer (some ⟨m, 0, none⟩)) ∧ Sys w0 w' m mb MS.new ∧ Mod w w' [] ∧ w.heap.size ≤ m ∧ w.heap.size ≤ mb := by
  refine (new_any w).mono ?_
  rintro e w' ⟨m, mb, he, h1, h2, hM', hm⟩
  have := hM.size
  exact ⟨m, mb, he, ⟨hf, hm, hM.call hM' (by simp), by omega, by omega⟩, hM', h1, h2⟩

end Go.Proofs.YtlecajmnmhpjkaaDoor
