/- Bumps of one era. -/
import Derived.Test.YtlecajmnmhpjkaaErasLives
import Derived.Test.YtlecajmnmhpjkaaRows2
import Derived.Maps.AppendAt
namespace Go.Proofs.Ytlecajmnmhpjkaa.law17
open Go.RowKit

structure Bmp where
  left : Int
  e : Int
  mv : Bool
def Bmp.obj (x : Bmp) : Obj := bumpO x.left x.e x.mv
def Bmp.new : Bmp := ⟨2, 0, false⟩
def Bmp.step (x : Bmp) (σ : MS) : Bmp × MS :=
  if x.left = 2 then (⟨1, σ.g 2 0 0, x.mv⟩, σ.load 2 0 0)
  else if x.left = 1 then (⟨0, x.e, σ.g 2 0 0 == x.e⟩, σ.cas 2 0 0 x.e (IntKind.u64.wrap (x.e + 1)))
  else (x, σ)
def Bmp.Ok (x : Bmp) : Prop := (x.left = 0 ∨ x.left = 1 ∨ x.left = 2) ∧ (x.left ≠ 0 → x.mv = false)

theorem bump_step (w : World) (b m mb : Nat) (σ : MS) (x : Bmp) (hx : x.Ok) (h : Has w b x.obj) (hm : MemAt w m mb σ) (n1 : b ≠ m) (n2 : b ≠ mb) :
    Calls Try.prog 18 #[.pointer (some ⟨b, 0, none⟩), .pointer (some ⟨m, 0, none⟩)] w fun e w' =>
      e = .returned (.bool ((x.step σ).1.left == 0)) ∧ Mod w w' [m, mb, b] ∧ MemAt w' m mb (x.step σ).2 ∧ Has w' b (x.step σ).1.obj := by
  obtain ⟨l, e, mv⟩ := x
  rcases hx.1 with h0 | h0 | h0
  all_goals
    simp only at h0
    subst h0
  · refine (bumpStep_over w b _ e mv h).mono ?_
    rintro en w' ⟨he, rfl⟩
    exact ⟨he, Mod.refl _ _, hm, h⟩
  · refine (bumpStep_second w b m mb σ e mv h hm n1 n2).mono ?_
    rintro en w' ⟨he, h1, h2, h3⟩
    exact ⟨he, h1, h2, h3⟩
  · refine (bumpStep_first w b m mb σ e mv h hm n1 n2).mono ?_
    rintro en w' ⟨he, h1, h2, h3⟩
    exact ⟨he, h1.wider (by simp), h2, h3⟩

theorem countP_set' (p : Bmp → Bool) (l : List Bmp) (i : Nat) (h : i < l.length) (y : Bmp) : (l.set i y).countP p + (if p l[i] = true then 1 else 0) = l.countP p + (if p y = true then 1 else 0) := by
  induction l generalizing i with
  | nil => simp at h
  | cons x l ih =>
    cases i with
    | zero =>
      simp only [List.set_cons_zero, List.countP_cons, List.getElem_cons_zero]
      omega
    | succ i =>
      have := ih i (by simpa using h)
      simp only [List.set_cons_succ, List.countP_cons, List.getElem_cons_succ]
      omega

/-- The law's state: as many have moved the era as it is on. -/
structure BInv (era : Int) (σ : MS) (ops : List Bmp) : Prop where
  val : σ.g 2 0 0 = IntKind.u64.wrap (era + (ops.countP Bmp.mv : Nat))
  ok : ∀ x ∈ ops, x.Ok
  zero : ops.countP Bmp.mv = 0 → ∀ x ∈ ops, x.left = 2 ∨ (x.left = 1 ∧ x.e = era)
  e0 : 0 ≤ era
  e1 : era < 18446744073709551616

theorem mem_set {α : Type} {l : List α} {i : Nat} {y z : α} (h : z ∈ l.set i y) : z = y ∨ z ∈ l := by
  rcases List.mem_or_eq_of_mem_set h with h | h
  · exact .inr h
  · exact .inl h

theorem cas_g_yes {σ : MS} {o n : Int} (h : σ.g 2 0 0 = o) (k a f : Int) : (σ.cas 2 0 0 o n).g k a f = if k = 2 ∧ a = 0 ∧ f = 0 then n else σ.g k a f := by
  unfold MS.cas
  rw [if_pos ⟨by simp [h], by decide⟩]
  rfl
theorem cas_g_no {σ : MS} {o n : Int} (h : ¬ σ.g 2 0 0 = o) (k a f : Int) : (σ.cas 2 0 0 o n).g k a f = σ.g k a f := by
  simp [MS.cas, h]

theorem BInv.step {era : Int} {σ : MS} {ops : List Bmp} (h : BInv era σ ops) (i : Nat) (hi : i < ops.length) :
    BInv era (ops[i].step σ).2 (ops.set i (ops[i].step σ).1) ∧ ((ops[i].step σ).1.left = if ops[i].left = 2 then 1 else 0) := by
  have hm : ops[i] ∈ ops := List.getElem_mem _
  have hok := h.ok _ hm
  have hcnt := countP_set' Bmp.mv ops i hi
  have hz := fun h0 => h.zero h0 _ hm
  have hv := h.val
  have e0 := h.e0
  have e1 := h.e1
  generalize hM : ops.countP Bmp.mv = M at *
  generalize hx : ops[i] = x at *
  obtain ⟨l, e, mv⟩ := x
  obtain ⟨h1, h2⟩ := hok
  simp only at h1 h2 hz hcnt
  rcases h1 with rfl | rfl | rfl
  · have es : (⟨0, e, mv⟩ : Bmp).step σ = (⟨0, e, mv⟩, σ) := by simp [Bmp.step]
    rw [es]
    have es2 : ops.set i ⟨0, e, mv⟩ = ops := by rw [← hx]; exact List.set_getElem_self hi
    simp only [es2]
    exact ⟨⟨by rw [hM]; exact hv, h.ok, by rw [hM]; exact h.zero ∘ (fun h => by rw [hM]; exact h), e0, e1⟩, by simp⟩
  · have hmv : mv = false := h2 (by omega)
    subst hmv
    by_cases hc : σ.g 2 0 0 = e
    · have es : (⟨1, e, false⟩ : Bmp).step σ = (⟨0, e, true⟩, σ.cas 2 0 0 e (IntKind.u64.wrap (e + 1))) := by simp [Bmp.step, hc]
      rw [es]
      have hc2 := hcnt ⟨0, e, true⟩
      simp at hc2
      refine ⟨⟨?_, fun z hz' => ?_, fun h0 => absurd (hc2.symm.trans h0) (by omega), e0, e1⟩, by simp⟩
      · rw [cas_g_yes hc, if_pos ⟨rfl, rfl, rfl⟩, hc2, ← hc, hv]
        simp only [wrap_u64_eq]
        omega
      · rcases mem_set hz' with rfl | hz'
        · exact ⟨.inl rfl, fun h => absurd rfl h⟩
        · exact h.ok z hz'
    · have es : (⟨1, e, false⟩ : Bmp).step σ = (⟨0, e, false⟩, σ.cas 2 0 0 e (IntKind.u64.wrap (e + 1))) := by simp [Bmp.step, hc]
      rw [es]
      have hc2 := hcnt ⟨0, e, false⟩
      simp at hc2
      refine ⟨⟨by rw [cas_g_no hc, hc2]; exact hv, fun z hz' => ?_, fun h0 => ?_, e0, e1⟩, by simp⟩
      · rcases mem_set hz' with rfl | hz'
        · exact ⟨.inl rfl, fun h => absurd rfl h⟩
        · exact h.ok z hz'
      · rw [hc2] at h0
        rcases hz h0 with h | h
        · omega
        · refine absurd ?_ hc
          rw [hv, h0, h.2, wrap_u64_eq]
          omega
  · have hmv : mv = false := h2 (by omega)
    subst hmv
    have es : (⟨2, e, false⟩ : Bmp).step σ = (⟨1, σ.g 2 0 0, false⟩, σ.load 2 0 0) := by simp [Bmp.step]
    rw [es]
    have hc2 := hcnt ⟨1, σ.g 2 0 0, false⟩
    simp at hc2
    refine ⟨⟨by rw [hc2]; exact hv, fun z hz' => ?_, fun h0 z hz' => ?_, e0, e1⟩, by simp⟩
    · rcases mem_set hz' with rfl | hz'
      · exact ⟨.inr (.inl rfl), fun _ => rfl⟩
      · exact h.ok z hz'
    · rw [hc2] at h0
      rcases mem_set hz' with rfl | hz'
      · refine .inr ⟨rfl, ?_⟩
        show σ.g 2 0 0 = era
        rw [hv, h0, wrap_u64_eq]
        omega
      · exact h.zero (by rw [hM]; exact h0) z hz'

/-- The bumps in their blocks. -/
structure BAt (w0 w : World) (m mb A : Nat) (σ : MS) (v : Value) (bs : List Nat) (ops : List Bmp) : Prop where
  sys : MSys w0 w m mb σ
  row : w.ownsRow w0.heap.size 52 1 v bs.length (bs.map fun b => Value.pointer (some ⟨b, 0, none⟩))
  len : ops.length = bs.length
  at_ : ∀ i (h : i < bs.length) (h' : i < ops.length), Has w bs[i] ops[i].obj
  nodup : bs.Nodup
  lo : ∀ b ∈ bs, w0.heap.size ≤ b ∧ b ≠ m ∧ b ≠ mb ∧ b ≠ A
  own : ∀ q, v.ownBlock = some q → q ≠ m ∧ q ≠ mb ∧ q ≠ A ∧ q ∉ bs
  addr : Has w A (.cells #[.int .u8 2, .int .i64 0, .int .i64 0] 34)
  nA : A ≠ m ∧ A ≠ mb ∧ w0.heap.size ≤ A

theorem BAt.keep0 {w0 w w' : World} {m mb A : Nat} {σ : MS} {v : Value} {bs : List Nat} {ops : List Bmp} (h : BAt w0 w m mb A σ v bs ops) (hM : Mod w w' []) : BAt w0 w' m mb A σ v bs ops :=
  ⟨h.sys.keep0 hM, ownsRow_mod h.row hM (by simp), h.len, fun i h1 h2 => (h.at_ i h1 h2).mod hM (by simp), h.nodup, h.lo, h.own, h.addr.mod hM (by simp), h.nA⟩
theorem BAt.next {w0 w w' : World} {m mb A : Nat} {σ σ' : MS} {v : Value} {bs : List Nat} {ops : List Bmp} (h : BAt w0 w m mb A σ v bs ops) (hM : Mod w w' [m]) (hs : MSys w0 w' m mb σ') : BAt w0 w' m mb A σ' v bs ops :=
  ⟨hs, ownsRow_mod h.row hM (fun q hq => by simpa using (h.own q hq).1), h.len, fun i h1 h2 => (h.at_ i h1 h2).mod hM (by simpa using (h.lo _ (List.getElem_mem h1)).2.1), h.nodup, h.lo, h.own, h.addr.mod hM (by simpa using h.nA.1), h.nA⟩

theorem BAt.step {w0 w : World} {m mb A : Nat} {σ : MS} {v : Value} {bs : List Nat} {ops : List Bmp} (h : BAt w0 w m mb A σ v bs ops) (i : Nat) (hb : i < bs.length) (hi : i < ops.length) (hok : ops[i].Ok) :
    Calls Try.prog 18 #[.pointer (some ⟨bs[i], 0, none⟩), .pointer (some ⟨m, 0, none⟩)] w fun e w' =>
      e = .returned (.bool ((ops[i].step σ).1.left == 0)) ∧ BAt w0 w' m mb A (ops[i].step σ).2 v bs (ops.set i (ops[i].step σ).1) := by
  have hl := h.lo _ (List.getElem_mem hb)
  refine (bump_step w bs[i] m mb σ ops[i] hok (h.at_ i hb hi) h.sys.mem hl.2.1 hl.2.2.1).mono ?_
  rintro e w' ⟨he, hM, hm, hO⟩
  have h1 := h.sys.lo
  have h2 := h.sys.lob
  refine ⟨he, h.sys.next hM (by intro c hc; simp at hc; omega) hm, ownsRow_mod h.row hM (fun q hq => ?_), by simpa using h.len, fun j h1 h2 => ?_, h.nodup, h.lo, h.own, h.addr.mod hM ?_, h.nA⟩
  · have hq' := h.own q hq
    simp
    refine ⟨hq'.1, hq'.2.1, fun e => hq'.2.2.2 ?_⟩
    rw [e]
    exact List.getElem_mem hb
  · by_cases e : i = j
    · subst e
      rw [List.getElem_set_self]
      exact hO
    · rw [List.getElem_set_ne e]
      refine (h.at_ j h1 (by simpa using h2)).mod hM ?_
      have hlj := h.lo _ (List.getElem_mem h1)
      simp
      refine ⟨hlj.2.1, hlj.2.2.1, fun e' => e ?_⟩
      rcases Nat.lt_trichotomy i j with hij | hij | hij
      · exact absurd e'.symm ((List.pairwise_iff_getElem.1 h.nodup) i j hb h1 hij)
      · exact hij
      · exact absurd e' ((List.pairwise_iff_getElem.1 h.nodup) j i h1 hb hij)
  · have := h.nA
    simp
    exact ⟨this.1, this.2.1, fun e => hl.2.2.2 e.symm⟩

/-- One bump more: made in block b, and appended. -/
theorem BAt.more {w0 w w' : World} {m mb A b : Nat} {σ : MS} {v v' : Value} {bs : List Nat} {ops : List Bmp} (h : BAt w0 w m mb A σ v bs ops) (hM : Mod w w' v.ownBlock.toList) (hb : b = w.heap.size) (hO : Has w' b Bmp.new.obj)
    (hrow : w'.ownsRow w0.heap.size 52 1 v' (bs.length + 1) (bs.map (fun b => Value.pointer (some ⟨b, 0, none⟩)) ++ [.pointer (some ⟨b, 0, none⟩)])) (hob : ∀ q, v'.ownBlock = some q → v.ownBlock = some q ∨ b < q) :
    BAt w0 w' m mb A σ v' (bs ++ [b]) (ops ++ [Bmp.new]) := by
  have h1 := h.sys.mod.size
  have h2 := h.sys.mem.lt
  have h3 := h.sys.mem.ltb
  have h4 := h.addr.lt
  have hown : ∀ c ∈ v.ownBlock.toList, w0.heap.size ≤ c := fun c hc => (h.row.lt c (by simpa using hc)).1
  have hblt : ∀ c ∈ bs, c < w.heap.size := fun c hc => by
    obtain ⟨j, hj, rfl⟩ := List.getElem_of_mem hc
    exact (h.at_ j hj (by rw [h.len]; exact hj)).lt
  refine ⟨h.sys.keep hM hown (fun e => (h.own m (by simpa using e)).1 rfl) (fun e => (h.own mb (by simpa using e)).2.1 rfl), by simpa using hrow, by simp [h.len], fun i hi hi' => ?_, ?_, fun c hc => ?_, fun q hq => ?_, h.addr.mod hM (fun e => (h.own A (by simpa using e)).2.2.1 rfl), h.nA⟩
  · by_cases e : i < bs.length
    · have e' : i < ops.length := by rw [h.len]; exact e
      rw [List.getElem_append_left e, List.getElem_append_left e']
      exact (h.at_ i e e').mod hM (fun hc => (h.own _ (by simpa using hc)).2.2.2 (List.getElem_mem e))
    · have e2 : i = bs.length := by
        simp at hi
        omega
      subst e2
      have hl := h.len
      simp [hl]
      simpa [← hl] using hO
  · rw [List.nodup_append]
    refine ⟨h.nodup, by simp, fun c hc d hd => ?_⟩
    simp at hd
    subst hd
    have := hblt c hc
    omega
  · rcases List.mem_append.1 hc with hc | hc
    · exact h.lo c hc
    · simp at hc
      subst hc
      exact ⟨by omega, by omega, by omega, by omega⟩
  · rcases hob q hq with e | e
    · have := h.own q e
      refine ⟨this.1, this.2.1, this.2.2.1, fun hc => ?_⟩
      rcases List.mem_append.1 hc with hc | hc
      · exact this.2.2.2 hc
      · simp at hc
        have := (h.row.lt q e).2
        omega
    · refine ⟨by omega, by omega, by omega, fun hc => ?_⟩
      rcases List.mem_append.1 hc with hc | hc
      · have := hblt q hc
        omega
      · simp at hc
        omega

end Go.Proofs.Ytlecajmnmhpjkaa.law17
