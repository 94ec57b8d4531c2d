/- Blocks of memory, and what a call may have turned of them: plain lemmas on worlds, of no program. -/
import Derived.WalkKit
import Derived.WalkSpells
import Derived.WalkLawsBesides
import Derived.Lib.Hide
import Derived.Deep.QuietTactic
import Derived.BigQuiet
import Derived.BigRegion
import Derived.Deep.Cut
namespace Go.Proofs.YtghkdkdlbkmicaaDoor
open Go.RowKit

/-- Block b of the world is this object. -/
def Has (w : World) (b : Nat) (o : Obj) : Prop := w.heap[b]? = some o

/-- Of what was there, at most the blocks on the list have turned. -/
structure Mod (w w' : World) (S : List Nat) : Prop where
  size : w.heap.size ≤ w'.heap.size
  same : ∀ b, b < w.heap.size → b ∉ S → w'.heap[b]? = w.heap[b]?
  os : w'.os = w.os
  tape : w'.tape = w.tape
  output : w'.output = w.output

theorem Has.lt {w : World} {b : Nat} {o : Obj} (h : Has w b o) : b < w.heap.size := by
  unfold Has at h
  rcases Nat.lt_or_ge b w.heap.size with h' | h'
  · exact h'
  · simp [Array.getElem?_eq_none h'] at h

theorem Has.inj {w : World} {b : Nat} {o o' : Obj} (h : Has w b o) (h' : Has w b o') : o = o' := by
  unfold Has at h h'
  exact Option.some.inj (h.symm.trans h')

theorem Has.cell {w : World} {b : Nat} {c : Array Value} {e : TypeId} {f : Nat × Nat} (h : Has w b (.cells c e f)) (i : Nat) :
    w.cell? ⟨b, i, none⟩ = c[i]? := by
  unfold Has at h
  simp [World.cell?, h]

theorem Has.frozen {w : World} {b : Nat} {c : Array Value} {e : TypeId} (h : Has w b (.cells c e (0, 0))) (i : Nat) :
    w.frozen? ⟨b, i, none⟩ = false := by
  unfold Has at h
  simp [World.frozen?, h]

theorem Has.alloc {w : World} {b : Nat} {o : Obj} (h : Has w b o) (o' : Obj) : Has (w.alloc o') b o := by
  have hb := h.lt
  unfold Has at h ⊢
  show (w.heap.push o')[b]? = _
  rw [Array.getElem?_push, if_neg (by omega)]
  exact h

theorem Has.new (w : World) (o : Obj) : Has (w.alloc o) w.heap.size o := by
  unfold Has
  show (w.heap.push o)[w.heap.size]? = _
  simp

theorem Has.new_at (w : World) (o : Obj) (n : Nat) (h : n = w.heap.size) : Has (w.alloc o) n o := by
  subst h
  exact Has.new w o

theorem Has.drew {w : World} {b : Nat} {o : Obj} (h : Has w b o) : Has w.drew b o := h

theorem Has.drewN {w : World} {b : Nat} {o : Obj} (h : Has w b o) (n : Nat) : Has (w.drewN n) b o := h

theorem Has.set_other {w : World} {b : Nat} {o : Obj} (h : Has w b o) {a : Addr} (ha : a.block ≠ b) (v : Value) : Has (w.setCell a v) b o := by
  unfold Has at h ⊢
  rw [Below.heap_setCell _ _ _ _ (by omega)]
  exact h

theorem Has.set_same {w : World} {b : Nat} {c : Array Value} {e : TypeId} {f : Nat × Nat} (h : Has w b (.cells c e f)) (i : Nat) (v : Value) :
    Has (w.setCell ⟨b, i, none⟩ v) b (.cells (c.setIfInBounds i v) e f) := by
  unfold Has at h ⊢
  simp [World.setCell, Array.getElem?_modify, h]

theorem Has.mod {w w' : World} {b : Nat} {o : Obj} {S : List Nat} (h : Has w b o) (hm : Mod w w' S) (hb : b ∉ S) : Has w' b o := by
  have hl := h.lt
  unfold Has at h ⊢
  rw [hm.same b hl hb]
  exact h

theorem Mod.refl (w : World) (S : List Nat) : Mod w w S := ⟨Nat.le_refl _, fun _ _ _ => rfl, rfl, rfl, rfl⟩

theorem Mod.trans {w w1 w2 : World} {S1 S2 S : List Nat} (h1 : Mod w w1 S1) (h2 : Mod w1 w2 S2)
    (k1 : ∀ b ∈ S1, b ∈ S ∨ w.heap.size ≤ b) (k2 : ∀ b ∈ S2, b ∈ S ∨ w.heap.size ≤ b) : Mod w w2 S := by
  refine ⟨Nat.le_trans h1.size h2.size, fun b hb hS => ?_, h2.os.trans h1.os, h2.tape.trans h1.tape, h2.output.trans h1.output⟩
  have n1 : b ∉ S1 := fun h => (k1 b h).elim (fun h => hS h) (fun h => by omega)
  have n2 : b ∉ S2 := fun h => (k2 b h).elim (fun h => hS h) (fun h => by omega)
  rw [h2.same b (Nat.lt_of_lt_of_le hb h1.size) n2, h1.same b hb n1]

theorem Mod.call {w w1 w2 : World} {S2 S : List Nat} (h1 : Mod w w1 S) (h2 : Mod w1 w2 S2)
    (k2 : ∀ b ∈ S2, b ∈ S ∨ w.heap.size ≤ b) : Mod w w2 S := h1.trans h2 (fun _ h => .inl h) k2

theorem Mod.alloc {w w1 : World} {S : List Nat} (h : Mod w w1 S) (o : Obj) : Mod w (w1.alloc o) S := by
  refine ⟨by have := h.size; simp; omega, fun b hb hS => ?_, h.os, h.tape, h.output⟩
  have := h.size
  rw [Below.heap_alloc _ _ _ (by omega)]
  exact h.same b hb hS

theorem Mod.setCell {w w1 : World} {S : List Nat} (h : Mod w w1 S) {a : Addr} (ha : a.block ∈ S ∨ w.heap.size ≤ a.block) (v : Value) : Mod w (w1.setCell a v) S := by
  refine ⟨by have := h.size; simp; omega, fun b hb hS => ?_, h.os, h.tape, h.output⟩
  have hne : b ≠ a.block := fun e => by
    subst e
    rcases ha with ha | ha
    · exact hS ha
    · omega
  rw [Below.heap_setCell _ _ _ _ hne]
  exact h.same b hb hS

theorem Mod.drew {w w1 : World} {S : List Nat} (h : Mod w w1 S) : Mod w w1.drew S := ⟨h.size, h.same, h.os, h.tape, h.output⟩
theorem Mod.drewN {w w1 : World} {S : List Nat} (h : Mod w w1 S) (n : Nat) : Mod w (w1.drewN n) S := ⟨h.size, h.same, h.os, h.tape, h.output⟩

theorem Mod.wider {w w1 : World} {S S' : List Nat} (h : Mod w w1 S) (hs : ∀ b ∈ S, b ∈ S' ∨ w.heap.size ≤ b) : Mod w w1 S' :=
  h.trans (Mod.refl _ []) hs (fun _ h => by cases h)

theorem Mod.below {w w1 : World} {S : List Nat} (h : Mod w w1 S) (hs : ∀ b ∈ S, w.heap.size ≤ b) : Below w.heap.size w w1 :=
  ⟨h.os, h.tape, h.output, h.size, fun b hb => h.same b hb (fun hm => by have := hs b hm; omega)⟩

/-- A map's block given a new content. -/
def putObj (w : World) (b : Nat) (o : Obj) : World := { w with heap := w.heap.setIfInBounds b o }

theorem Has.put_same {w : World} {b : Nat} {o : Obj} (h : Has w b o) (o' : Obj) : Has (putObj w b o') b o' := by
  have := h.lt
  unfold Has putObj
  simp [this]

theorem Has.put_other {w : World} {b b' : Nat} {o : Obj} (h : Has w b o) (hb : b' ≠ b) (o' : Obj) : Has (putObj w b' o') b o := by
  unfold Has putObj at *
  simp [hb, h]

theorem Mod.put {w w1 : World} {S : List Nat} (h : Mod w w1 S) {b : Nat} (hb : b ∈ S ∨ w.heap.size ≤ b) (o : Obj) : Mod w (putObj w1 b o) S := by
  refine ⟨by have := h.size; simp [putObj]; omega, fun c hc hS => ?_, h.os, h.tape, h.output⟩
  have hne : b ≠ c := fun e => by
    subst e
    rcases hb with hb | hb
    · exact hS hb
    · omega
  show (w1.heap.setIfInBounds b o)[c]? = _
  rw [Array.getElem?_setIfInBounds_ne hne]
  exact h.same c hc hS

/- One block of a world that is written out, by simp. -/
def setIn (i : Nat) (v : Value) : Obj → Obj
  | .cells c e f => .cells (c.setIfInBounds i v) e f
  | o => o
theorem setIn_cells (i : Nat) (v : Value) (c : Array Value) (e : TypeId) (f : Nat × Nat) : setIn i v (.cells c e f) = .cells (c.setIfInBounds i v) e f := rfl
theorem hp_set_same (w : World) (b i : Nat) (v : Value) : (w.setCell ⟨b, i, none⟩ v).heap[b]? = (w.heap[b]?).map (setIn i v) := by
  simp only [World.setCell, Array.getElem?_modify, if_true]
  congr 1
theorem hp_set_ne (w : World) (b n i : Nat) (v : Value) (h : n ≠ b) : (w.setCell ⟨n, i, none⟩ v).heap[b]? = w.heap[b]? := Below.heap_setCell _ _ _ _ (by intro e; exact h e.symm)
theorem hp_alloc (w : World) (b : Nat) (o : Obj) (h : b < w.heap.size) : (w.alloc o).heap[b]? = w.heap[b]? := Below.heap_alloc _ _ _ h
theorem hp_new (w : World) (b : Nat) (o : Obj) (h : b = w.heap.size) : (w.alloc o).heap[b]? = some o := by
  subst h
  exact Has.new w o
theorem hp_drew (w : World) (b : Nat) : w.drew.heap[b]? = w.heap[b]? := rfl
theorem hp_drewN (w : World) (b n : Nat) : (w.drewN n).heap[b]? = w.heap[b]? := rfl
theorem hp_put_same (w : World) (b : Nat) (o : Obj) (h : b < w.heap.size) : (putObj w b o).heap[b]? = some o := by
  simp [putObj, h]
theorem hp_put_ne (w : World) (b n : Nat) (o : Obj) (h : n ≠ b) : (putObj w n o).heap[b]? = w.heap[b]? := by
  simp [putObj, h]

/- The walk's own rules for a block's object behind what leaves it alone. -/
@[go_sem] theorem Has.drew_iff {w : World} {b : Nat} {o : Obj} : Has w.drew b o ↔ Has w b o := ⟨fun h => h, fun h => h⟩
@[go_sem] theorem Has.drewN_iff {w : World} {n b : Nat} {o : Obj} : Has (w.drewN n) b o ↔ Has w b o := ⟨fun h => h, fun h => h⟩
@[go_sem] theorem Has.alloc_iff {w : World} {b : Nat} {o o' : Obj} (h : b < w.heap.size) : Has (w.alloc o') b o ↔ Has w b o := by
  unfold Has
  show ((w.heap.push o')[b]? = _) ↔ _
  rw [Array.getElem?_push, if_neg (by omega)]
@[go_sem] theorem Has.set_iff {w : World} {n i b : Nat} {o : Obj} {v : Value} (h : n ≠ b) : Has (w.setCell ⟨n, i, none⟩ v) b o ↔ Has w b o := by
  unfold Has
  rw [Below.heap_setCell _ _ _ _ (by intro e; exact h e.symm)]
@[go_sem] theorem Has.put_iff {w : World} {n b : Nat} {o o' : Obj} (h : n ≠ b) : Has (putObj w n o') b o ↔ Has w b o := by
  unfold Has putObj
  simp [h]

@[go_sem] theorem Has.put_self {w : World} {b : Nat} {o o' : Obj} (h : b < w.heap.size) : Has (putObj w b o) b o' ↔ o = o' := by
  unfold Has putObj
  simp [h]
@[go_sem] theorem size_putObj (w : World) (b : Nat) (o : Obj) : (putObj w b o).heap.size = w.heap.size := by simp [putObj]
@[go_sem] theorem cell?_putObj {w : World} {n b i : Nat} {o : Obj} (h : n ≠ b) : (putObj w b o).cell? ⟨n, i, none⟩ = w.cell? ⟨n, i, none⟩ :=
  World.cell?_of_block (by simp [putObj, Array.getElem?_setIfInBounds_ne (Ne.symm h)])
@[go_sem] theorem frozen?_putObj {w : World} {n b i : Nat} {o : Obj} (h : n ≠ b) : (putObj w b o).frozen? ⟨n, i, none⟩ = w.frozen? ⟨n, i, none⟩ :=
  World.frozen?_of_block (by simp [putObj, Array.getElem?_setIfInBounds_ne (Ne.symm h)])
@[go_sem] theorem putObj_putObj (w : World) (b : Nat) (o o' : Obj) : putObj (putObj w b o) b o' = putObj w b o' := by
  simp [putObj, Array.setIfInBounds_setIfInBounds]
@[go_sem] theorem putObj_drew (w : World) (b : Nat) (o : Obj) : putObj w.drew b o = (putObj w b o).drew := rfl
@[go_sem] theorem putObj_drewN (w : World) (b n : Nat) (o : Obj) : putObj (w.drewN n) b o = (putObj w b o).drewN n := rfl

theorem wrap_u64_eq (x : Int) : IntKind.u64.wrap x = x % 18446744073709551616 := by
  simp [IntKind.wrap, IntKind.signed, IntKind.bits]
theorem wrap_u64 (x : Int) : 0 ≤ IntKind.u64.wrap x ∧ IntKind.u64.wrap x < 18446744073709551616 := by
  rw [wrap_u64_eq]
  omega

theorem alloc_drewN (w : World) (n : Nat) (o : Obj) : (w.drewN n).alloc o = (w.alloc o).drewN n := rfl
theorem setCell_drewN (w : World) (n : Nat) (a : Addr) (v : Value) : (w.drewN n).setCell a v = (w.setCell a v).drewN n := rfl

/-- An owned row's slice: its form, and its cells. -/
theorem ownsRow_form {w : World} {base : Nat} {e : TypeId} {size : Nat} {v : Value} {n : Nat} {xs : List Value} (h : w.ownsRow base e size v n xs) : ∃ pv cv, v = .slice pv n cv := by
  rcases h.2 with ⟨rfl, rfl⟩ | ⟨g, cap, cur, rfl, _⟩
  · exact ⟨_, _, rfl⟩
  · exact ⟨_, _, rfl⟩
theorem ownsRow_cell {w : World} {base : Nat} {e : TypeId} {pv : Option Addr} {cv n m : Nat} {xs : List Value} (h : w.ownsRow base e 1 (.slice pv m cv) n xs) {j : Nat} (hj : j < n) :
    ∃ g x, pv = some ⟨g, 0, none⟩ ∧ base ≤ g ∧ xs[j]? = some x ∧ w.cell? ⟨g, j, none⟩ = some x := by
  obtain ⟨hl, h2⟩ := h
  rcases h2 with ⟨_, rfl⟩ | ⟨g, cap, cur, hv, hb, hh, h3, h4, h5, h6⟩
  · omega
  · simp only [Value.slice.injEq] at hv
    have hjx : j < xs.length := by omega
    have hx : xs[j]? = some xs[j] := List.getElem?_eq_getElem hjx
    refine ⟨g, xs[j], hv.1, hb, hx, ?_⟩
    simp only [World.cell?, hh]
    have : (cur.toList.take (n * 1))[j]? = some xs[j] := by rw [h6]; exact hx
    rw [List.getElem?_take_of_lt (by omega)] at this
    simpa using this

theorem Mod.of_grown {w w' : World} {r : Option Nat} (h : w.grownBy w' r) : Mod w w' r.toList :=
  ⟨h.size, fun b hb hn => h.block b hb (fun e => hn (by rw [← e]; simp)), h.os, h.tape, h.output⟩
/- The rules of a written world's blocks, under one name. -/
theorem heapRules : (∀ (w : World) (b i : Nat) (v : Value), (w.setCell ⟨b, i, none⟩ v).heap[b]? = (w.heap[b]?).map (setIn i v)) ∧
    (∀ (w : World) (b n i : Nat) (v : Value), n ≠ b → (w.setCell ⟨n, i, none⟩ v).heap[b]? = w.heap[b]?) ∧
    (∀ (w : World) (b : Nat) (o : Obj), b < w.heap.size → (w.alloc o).heap[b]? = w.heap[b]?) ∧
    (∀ (w : World) (b : Nat) (o : Obj), b = w.heap.size → (w.alloc o).heap[b]? = some o) ∧
    (∀ (w : World) (b : Nat), w.drew.heap[b]? = w.heap[b]?) ∧
    (∀ (w : World) (b n : Nat), (w.drewN n).heap[b]? = w.heap[b]?) ∧
    (∀ (w : World) (b : Nat) (o : Obj), b < w.heap.size → (putObj w b o).heap[b]? = some o) ∧
    (∀ (w : World) (b n : Nat) (o : Obj), n ≠ b → (putObj w n o).heap[b]? = w.heap[b]?) ∧
    (∀ (i : Nat) (v : Value) (c : Array Value) (e : TypeId) (f : Nat × Nat), setIn i v (.cells c e f) = .cells (c.setIfInBounds i v) e f) ∧
    (∀ (f : Obj → Obj) (o : Obj), (some o).map f = some (f o)) ∧
    (∀ (l : List Value) (i : Nat) (v : Value), l.toArray.setIfInBounds i v = (l.set i v).toArray) ∧
    (∀ (x : Value) (l : List Value) (n : Nat) (v : Value), (x :: l).set (n + 1) v = x :: l.set n v) ∧
    (∀ (x : Value) (l : List Value) (v : Value), (x :: l).set 0 v = v :: l) :=
  ⟨hp_set_same, hp_set_ne, hp_alloc, hp_new, hp_drew, hp_drewN, hp_put_same, hp_put_ne, setIn_cells, fun _ _ => rfl, fun _ _ _ => List.setIfInBounds_toArray .., fun _ _ _ _ => rfl, fun _ _ _ => rfl⟩
theorem getRules : (∀ (l : List Value) (i : Nat), l.toArray[i]? = l[i]?) ∧ (∀ (x : Value) (l : List Value) (n : Nat), (x :: l)[n + 1]? = l[n]?) ∧ (∀ (x : Value) (l : List Value), (x :: l)[0]? = some x) :=
  ⟨fun _ _ => List.getElem?_toArray .., fun _ _ _ => rfl, fun _ _ => rfl⟩

end Go.Proofs.YtghkdkdlbkmicaaDoor
