/- Things of three cells each in one block, each with blocks of its own: plain lemmas on worlds. -/
import Derived.Test.YtghkdkdlbkmicaaDoorBase
namespace Go.Proofs.YtghkdkdlbkmicaaDoor
open Go.RowKit

/-- Three cells of a block, from q on; all others as they were. -/
structure Tri (cs cs' : Array Value) (q : Nat) (a b c : Value) : Prop where
  size : cs'.size = cs.size
  c0 : cs'[q]? = some a
  c1 : cs'[q + 1]? = some b
  c2 : cs'[q + 2]? = some c
  far : ∀ j, j < q ∨ q + 3 ≤ j → cs'[j]? = cs[j]?

theorem size_of_at {cs : Array Value} {i : Nat} {v : Value} (h : cs[i]? = some v) : i < cs.size := by
  rcases Nat.lt_or_ge i cs.size with h' | h'
  · exact h'
  · simp [Array.getElem?_eq_none h'] at h
theorem Tri.refl {cs : Array Value} {q : Nat} {a b c : Value} (h0 : cs[q]? = some a) (h1 : cs[q + 1]? = some b) (h2 : cs[q + 2]? = some c) : Tri cs cs q a b c := ⟨rfl, h0, h1, h2, fun _ _ => rfl⟩
theorem Tri.set0 {cs cs' : Array Value} {q : Nat} {a b c : Value} (h : Tri cs cs' q a b c) (v : Value) : Tri cs (cs'.setIfInBounds q v) q v b c := by
  have := size_of_at h.c0
  refine ⟨by simpa using h.size, by simp [this], ?_, ?_, fun j hj => ?_⟩
  · rw [Array.getElem?_setIfInBounds_ne (by omega)]
    exact h.c1
  · rw [Array.getElem?_setIfInBounds_ne (by omega)]
    exact h.c2
  · rw [Array.getElem?_setIfInBounds_ne (by omega)]
    exact h.far j hj
theorem Tri.set1 {cs cs' : Array Value} {q : Nat} {a b c : Value} (h : Tri cs cs' q a b c) (v : Value) : Tri cs (cs'.setIfInBounds (q + 1) v) q a v c := by
  have := size_of_at h.c1
  refine ⟨by simpa using h.size, ?_, by simp [this], ?_, fun j hj => ?_⟩
  · rw [Array.getElem?_setIfInBounds_ne (by omega)]
    exact h.c0
  · rw [Array.getElem?_setIfInBounds_ne (by omega)]
    exact h.c2
  · rw [Array.getElem?_setIfInBounds_ne (by omega)]
    exact h.far j hj
theorem Tri.set2 {cs cs' : Array Value} {q : Nat} {a b c : Value} (h : Tri cs cs' q a b c) (v : Value) : Tri cs (cs'.setIfInBounds (q + 2) v) q a b v := by
  have := size_of_at h.c2
  refine ⟨by simpa using h.size, ?_, ?_, by simp [this], fun j hj => ?_⟩
  · rw [Array.getElem?_setIfInBounds_ne (by omega)]
    exact h.c0
  · rw [Array.getElem?_setIfInBounds_ne (by omega)]
    exact h.c1
  · rw [Array.getElem?_setIfInBounds_ne (by omega)]
    exact h.far j hj

/-- How a thing lies: its blocks, its three cells. -/
structure Lain {X : Type} (A : World → List Nat → Value → Value → Value → X → Prop) : Prop where
  mod : ∀ {w w' : World} {bs S : List Nat} {a b c : Value} {x : X}, A w bs a b c x → Mod w w' S → (∀ y ∈ bs, y ∉ S) → A w' bs a b c x
  lt : ∀ {w : World} {bs : List Nat} {a b c : Value} {x : X}, A w bs a b c x → ∀ y ∈ bs, y < w.heap.size

section
variable {X : Type} (A : World → List Nat → Value → Value → Value → X → Prop)

/-- The things xs lie in block B, three cells each; what each owns is nobody else's, and none of N. -/
structure Ring3 (w : World) (base : Nat) (N : List Nat) (B : Nat) (T : TypeId) (xs : List X) (cs : Array Value) (fp : Nat → List Nat) : Prop where
  has : Has w B (.cells cs T)
  loB : base ≤ B
  nB : B ∉ N
  at_ : ∀ i (h : i < xs.length), ∃ a b c, Tri cs cs (i * 3) a b c ∧ A w (fp i) a b c xs[i]
  lo : ∀ i y, i < xs.length → y ∈ fp i → base ≤ y ∧ y ∉ N ∧ y ≠ B
  apart : ∀ i j y, i < xs.length → j < xs.length → i ≠ j → y ∈ fp i → y ∉ fp j

/-- A thing at q, that a step of it began in w as x with the blocks bs, in the world w' as x'. -/
structure Turned (w : World) (base : Nat) (N : List Nat) (B : Nat) (T : TypeId) (q : Nat) (cs : Array Value) (bs : List Nat) (x' : X) (w' : World) (bs' : List Nat) (a b c : Value) (cs' : Array Value) : Prop where
  has : Has w' B (.cells cs' T)
  cells : Tri cs cs' q a b c
  lies : A w' bs' a b c x'
  lo : ∀ y ∈ bs', base ≤ y ∧ y ∉ N ∧ y ≠ B
  sub : ∀ y ∈ bs', y ∈ bs ∨ w.heap.size ≤ y
  mod : Mod w w' (N ++ B :: bs)
end

section
variable {X : Type} {A : World → List Nat → Value → Value → Value → X → Prop} {w w' : World} {base : Nat} {N : List Nat} {B : Nat} {T : TypeId} {xs : List X} {cs : Array Value} {fp : Nat → List Nat}

theorem Ring3.lt (hA : Lain A) (h : Ring3 A w base N B T xs cs fp) {i y : Nat} (hi : i < xs.length) (hy : y ∈ fp i) : y < w.heap.size := by
  obtain ⟨a, b, c, _, h2⟩ := h.at_ i hi
  exact hA.lt h2 y hy
/-- Behind a call that turns but blocks of N, or none that was there. -/
theorem Ring3.keep (hA : Lain A) (h : Ring3 A w base N B T xs cs fp) {S : List Nat} (hM : Mod w w' S) (hS : ∀ y ∈ S, y ∈ N ∨ w.heap.size ≤ y) : Ring3 A w' base N B T xs cs fp := by
  have hl := h.has.lt
  refine ⟨h.has.mod hM (fun hb => ?_), h.loB, h.nB, fun i hi => ?_, h.lo, h.apart⟩
  · rcases hS B hb with e | e
    · exact h.nB e
    · omega
  · obtain ⟨a, b, c, h1, h2⟩ := h.at_ i hi
    refine ⟨a, b, c, h1, hA.mod h2 hM (fun y hy hb => ?_)⟩
    rcases hS y hb with e | e
    · exact (h.lo i y hi hy).2.1 e
    · have := h.lt hA hi hy
      omega
theorem Ring3.keep0 (hA : Lain A) (h : Ring3 A w base N B T xs cs fp) (hM : Mod w w' []) : Ring3 A w' base N B T xs cs fp := h.keep hA hM (by simp)

/-- A thing's step begins. -/
theorem Ring3.begin (h : Ring3 A w base N B T xs cs fp) (i : Nat) (hi : i < xs.length) : ∃ a b c, Turned A w base N B T (i * 3) cs (fp i) xs[i] w (fp i) a b c cs := by
  obtain ⟨a, b, c, h1, h2⟩ := h.at_ i hi
  exact ⟨a, b, c, h.has, h1, h2, fun y hy => h.lo i y hi hy, fun y hy => .inl hy, Mod.refl _ _⟩

/-- .. and is behind. -/
theorem Ring3.turn (hA : Lain A) (h : Ring3 A w base N B T xs cs fp) (i : Nat) (hi : i < xs.length) {x' : X} {bs' : List Nat} {a b c : Value} {cs' : Array Value}
    (ht : Turned A w base N B T (i * 3) cs (fp i) x' w' bs' a b c cs') : Ring3 A w' base N B T (xs.set i x') cs' (fun k => if k = i then bs' else fp k) := by
  refine ⟨ht.has, h.loB, h.nB, fun k hk => ?_, fun k y hk hy => ?_, fun k j y hk hj hkj hy => ?_⟩
  · simp only [List.length_set] at hk
    by_cases e : k = i
    · subst e
      refine ⟨a, b, c, ⟨rfl, ht.cells.c0, ht.cells.c1, ht.cells.c2, fun _ _ => rfl⟩, ?_⟩
      simpa using ht.lies
    · obtain ⟨a2, b2, c2, k1, k2⟩ := h.at_ k hk
      refine ⟨a2, b2, c2, ⟨rfl, ?_, ?_, ?_, fun _ _ => rfl⟩, ?_⟩
      · rw [ht.cells.far _ (by omega)]
        exact k1.c0
      · rw [ht.cells.far _ (by omega)]
        exact k1.c1
      · rw [ht.cells.far _ (by omega)]
        exact k1.c2
      · simp only [if_neg e]
        rw [List.getElem_set_ne (Ne.symm e)]
        refine hA.mod k2 ht.mod (fun y hy hb => ?_)
        have e1 := h.lo k y hk hy
        have e2 := h.apart k i y hk hi e hy
        simp only [List.mem_append, List.mem_cons] at hb
        rcases hb with hb | hb | hb
        · exact e1.2.1 hb
        · exact e1.2.2 hb
        · exact e2 hb
  · simp only [List.length_set] at hk
    by_cases e : k = i
    · rw [if_pos e] at hy
      exact ht.lo y hy
    · rw [if_neg e] at hy
      exact h.lo k y hk hy
  · simp only [List.length_set] at hk hj
    by_cases e : k = i
    · subst e
      rw [if_pos rfl] at hy
      rw [if_neg (Ne.symm hkj)]
      rcases ht.sub y hy with e | e
      · exact h.apart k j y hk hj hkj e
      · intro hb
        have := h.lt hA hj hb
        omega
    · rw [if_neg e] at hy
      by_cases e2 : j = i
      · rw [if_pos e2]
        intro hb
        rcases ht.sub y hb with e3 | e3
        · exact h.apart k i y hk hi e hy e3
        · have := h.lt hA hk hy
          omega
      · rw [if_neg e2]
        exact h.apart k j y hk hj hkj hy

variable {q : Nat} {bs bs' : List Nat} {x x' : X} {a b c : Value} {cs' : Array Value}

/-- A call within a step, that may turn N, the thing's block, its own blocks, and what is new. -/
theorem Turned.call (h : Turned A w base N B T q cs bs x w' bs' a b c cs') {w'' : World} {S : List Nat} (hM : Mod w' w'' S)
    (hS : ∀ y ∈ S, y ∈ N ∨ y = B ∨ y ∈ bs' ∨ w.heap.size ≤ y) : Mod w w'' (N ++ B :: bs) := by
  refine h.mod.call hM (fun y hy => ?_)
  rcases hS y hy with e | e | e | e
  · exact .inl (by simp [e])
  · exact .inl (by simp [e])
  · rcases h.sub y e with e | e
    · exact .inl (by simp [e])
    · exact .inr e
  · exact .inr e
/-- A call that turns none of the thing's blocks. -/
theorem Turned.keep (hA : Lain A) (h : Turned A w base N B T q cs bs x w' bs' a b c cs') (nB : B ∉ N) {w'' : World} {S : List Nat} (hM : Mod w' w'' S)
    (hS : ∀ y ∈ S, y ∈ N ∨ w'.heap.size ≤ y) : Turned A w base N B T q cs bs x w'' bs' a b c cs' := by
  have hl := h.has.lt
  have hz := h.mod.size
  refine ⟨h.has.mod hM (fun hb => ?_), h.cells, hA.mod h.lies hM (fun y hy hb => ?_), h.lo, h.sub, h.call hM (fun y hy => ?_)⟩
  · rcases hS B hb with e | e
    · exact nB e
    · omega
  · rcases hS y hb with e | e
    · exact (h.lo y hy).2.1 e
    · have := hA.lt h.lies y hy
      omega
  · rcases hS y hy with e | e
    · exact .inl e
    · exact .inr (.inr (.inr (by omega)))
end

end Go.Proofs.YtghkdkdlbkmicaaDoor
