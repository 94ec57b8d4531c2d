/- Threads that pop and push: the plain law behind FreesOnce. -/
import Derived.Test.YtlecajmnmhpjkaaDoorStack
namespace Go.Proofs.YtlecajmnmhpjkaaDoor
open Go.RowKit

/-- What is under way. -/
inductive OpS where
  | none
  | pop (p : PopS)
  | push (p : PushS)
/-- A thread: what it has got, and what is under way. -/
structure Th where
  held : List Int
  op : OpS

def Th.begun (t : Th) (push : Bool) : Th :=
  match t.op with
  | .none => match push, t.held with
    | true, s :: r => ⟨r, .push (PushS.new s)⟩
    | _, _ => ⟨t.held, .pop PopS.new⟩
  | _ => t
/-- What is behind a step of a Pop; of a Push. -/
def Th.popped (held : List Int) (p : PopS) : Th :=
  if p.line = 0 then ⟨if p.ok = true then held ++ [p.slot] else held, .none⟩ else ⟨held, .pop p⟩
def Th.pushed (held : List Int) (p : PushS) : Th :=
  if p.line = 0 then ⟨held, .none⟩ else ⟨held, .push p⟩
/-- A step of what is under way. -/
def Th.go (t : Th) (σ : MS) : Th × MS :=
  match t.op with
  | .none => (t, σ)
  | .pop p => (Th.popped t.held (p.step σ).1, (p.step σ).2)
  | .push p => (Th.pushed t.held (p.step σ).1, (p.step σ).2)
def Th.step (t : Th) (push : Bool) (σ : MS) : Th × MS := (t.begun push).go σ

/-- The slot that a thread's Push has in hand. -/
def OpS.slots : OpS → List Int
  | .push p => [p.slot]
  | _ => []
def Th.own (t : Th) : List Int := t.held ++ t.op.slots
/-- A head that was read: older than the list's, or just it. -/
structure Read (σ : MS) (t hd : Int) : Prop where
  old : hd / 65536 ≤ t
  same : hd / 65536 = t → hd = σ.g 0 0 0
/-- What holds of what is under way, by the list's words and its tag. -/
def OpS.Good (σ : MS) (t : Int) : OpS → Prop
  | .none => True
  | .pop p => p.Ok ∧ p.ok = false ∧ p.line ≠ 0 ∧ (p.line ≠ 1 → Read σ t p.head ∧ mayS (slotW p.head) = true) ∧ (p.line = 3 → p.head = σ.g 0 0 0 → p.next = slotW (σ.g 9 (slotW p.head) 2))
  | .push p => p.Ok ∧ p.line ≠ 0 ∧ (p.line ≠ 1 → Read σ t p.head) ∧ (p.line = 3 → slotW (σ.g 9 p.slot 2) = slotW p.head)

theorem Read.same_g {σ σ' : MS} {t hd : Int} (h : Read σ t hd) (hg : σ'.g 0 0 0 = σ.g 0 0 0) : Read σ' t hd := ⟨h.old, fun e => by rw [hg]; exact h.same e⟩
theorem Read.now {σ σ' : MS} {t : Int} (h : σ.g 0 0 0 / 65536 = t) (hg : σ'.g 0 0 0 = σ.g 0 0 0) : Read σ' t (σ.g 0 0 0) := ⟨by omega, fun _ => hg.symm⟩
theorem Read.newer {σ σ' : MS} {t hd : Int} (h : Read σ t hd) : Read σ' (t + 1) hd := ⟨by have := h.old; omega, fun e => by have := h.old; omega⟩

/-- Others' operations, behind a step that turns no word. -/
theorem OpS.Good.still {σ σ' : MS} {t : Int} {o : OpS} (h : o.Good σ t) (hg : ∀ k a f, σ'.g k a f = σ.g k a f) : o.Good σ' t := by
  cases o with
  | none => trivial
  | pop p =>
    obtain ⟨h1, h2, h3, h4, h5⟩ := h
    exact ⟨h1, h2, h3, fun e => ⟨(h4 e).1.same_g (hg 0 0 0), (h4 e).2⟩, fun e1 e2 => by rw [hg] at e2 ⊢; exact h5 e1 e2⟩
  | push p =>
    obtain ⟨h1, h2, h3, h4⟩ := h
    exact ⟨h1, h2, fun e => (h3 e).same_g (hg 0 0 0), fun e => by rw [hg]; exact h4 e⟩
/-- Behind a step that turns the link of a slot that is neither in the list nor theirs. -/
theorem OpS.Good.link {σ σ' : MS} {t : Int} {o : OpS} {L : List Int} {s : Int} (h : o.Good σ t) (hs : Stk σ L t) (h1 : s ∉ L) (h2 : s ∉ o.slots)
    (hg : ∀ k a f, ¬(k = 9 ∧ a = s ∧ f = 2) → σ'.g k a f = σ.g k a f) : o.Good σ' t := by
  have h0 : σ'.g 0 0 0 = σ.g 0 0 0 := hg 0 0 0 (by omega)
  cases o with
  | none => trivial
  | pop p =>
    obtain ⟨a1, a2, a3, a4, a5⟩ := h
    refine ⟨a1, a2, a3, fun e => ⟨(a4 e).1.same_g h0, (a4 e).2⟩, fun e1 e2 => ?_⟩
    rw [h0] at e2
    rw [hg 9 (slotW p.head) 2 ?_]
    · exact a5 e1 e2
    · rintro ⟨_, e3, _⟩
      have hm := (a4 (by omega)).2
      rw [e2, hs.top] at e3
      rw [e2, hs.top] at hm
      cases L with
      | nil => simp [topOf, mayS] at hm
      | cons x L =>
        simp only [topOf] at e3
        exact h1 (by simp [e3])
  | push p =>
    obtain ⟨a1, a2, a3, a4⟩ := h
    refine ⟨a1, a2, fun e => (a3 e).same_g h0, fun e => ?_⟩
    rw [hg 9 p.slot 2 (by rintro ⟨_, e3, _⟩; exact h2 (by simp [OpS.slots, e3]))]
    exact a4 e
/-- Behind a step that turns the list's head. -/
theorem OpS.Good.turn {σ σ' : MS} {t : Int} {o : OpS} (h : o.Good σ t) (ht : σ'.g 0 0 0 / 65536 = t + 1) (hg : ∀ k a f, k ≠ 0 → σ'.g k a f = σ.g k a f) : o.Good σ' (t + 1) := by
  cases o with
  | none => trivial
  | pop p =>
    obtain ⟨a1, a2, a3, a4, a5⟩ := h
    refine ⟨a1, a2, a3, fun e => ⟨(a4 e).1.newer, (a4 e).2⟩, fun e1 e2 => ?_⟩
    have := (a4 (by omega)).1.old
    rw [e2] at this
    omega
  | push p =>
    obtain ⟨a1, a2, a3, a4⟩ := h
    exact ⟨a1, a2, fun e => (a3 e).newer, fun e => by rw [hg _ _ _ (by omega)]; exact a4 e⟩

/-- How many steps at most an operation is from its end, if it is alone. -/
def rankOf (line : Int) (cur : Bool) : Nat :=
  if line = 1 then 3 else if line = 2 then (if cur = true then 2 else 5) else if line = 3 then (if cur = true then 1 else 4) else 0
def OpS.rank (σ : MS) : OpS → Nat
  | .none => 0
  | .pop p => rankOf p.line (σ.g 0 0 0 == p.head)
  | .push p => rankOf p.line (σ.g 0 0 0 == p.head)
theorem rankOf_le (l : Int) (c : Bool) : rankOf l c ≤ 5 := by
  unfold rankOf
  repeat' split
  all_goals omega
theorem rankOf_32 (c : Bool) : rankOf 3 c + 1 ≤ rankOf 2 c := by
  cases c <;> decide
theorem OpS.rank_le (σ : MS) (o : OpS) : o.rank σ ≤ 5 := by
  cases o with
  | none => simp [OpS.rank]
  | pop p => exact rankOf_le _ _
  | push p => exact rankOf_le _ _
theorem OpS.rank_zero {σ : MS} {t : Int} {o : OpS} (h : o.Good σ t) (hr : o.rank σ = 0) : o = .none := by
  have key : ∀ l c, (l = 0 ∨ l = 1 ∨ l = 2 ∨ l = 3) → l ≠ 0 → rankOf l c = 0 → False := by
    intro l c h1 h2 h3
    unfold rankOf at h3
    rcases h1 with rfl | rfl | rfl | rfl
    · exact h2 rfl
    · simp at h3
    · cases c <;> simp at h3
    · cases c <;> simp at h3
  cases o with
  | none => rfl
  | pop p => exact (key _ _ h.1.line h.2.2.1 hr).elim
  | push p => exact (key _ _ h.1.line h.2.1 hr).elim

/-- What a step of a thread leaves: the list, the tag, the others, its own slots; and it is nearer its end. -/
structure Went (σ : MS) (L : List Int) (t : Int) (x : Th) (x' : Th) (σ' : MS) (L' : List Int) (t' : Int) : Prop where
  stk : Stk σ' L' t'
  good : x'.op.Good σ' t'
  lo : t ≤ t'
  hi : t' ≤ t + 1
  perm : (L' ++ x'.own).Perm (L ++ x.own)
  others : ∀ u : OpS, u.Good σ t → (∀ s ∈ x.op.slots, s ∉ u.slots) → u.Good σ' t'
  rank : x'.op.rank σ' + 1 ≤ x.op.rank σ

theorem Stk.link_out {σ σ' : MS} {L : List Int} {t s : Int} (h : Stk σ L t) (hs : s ∉ L) (hg : ∀ k a f, ¬(k = 9 ∧ a = s ∧ f = 2) → σ'.g k a f = σ.g k a f) : Stk σ' L t := by
  refine ⟨by rw [hg 0 0 0 (by omega)]; exact h.head, fun i x hi => ?_, h.valid, h.nodup, h.t0, h.t1⟩
  rw [hg 9 x 2 (by rintro ⟨_, e, _⟩; exact hs (by rw [← e]; exact List.mem_of_getElem? hi))]
  exact h.link i x hi
theorem slotW_again (x : Int) : slotW (headW (slotW x) 0) = slotW x := by
  by_cases h : mayS (slotW x) = true
  · exact slotW_headW h
  · have e : slotW x = -1 := by
      by_cases hm : mayS (x % 65536 - 1) = true
      · exact absurd (by unfold slotW; rw [if_pos hm]; exact hm) h
      · unfold slotW
        rw [if_neg hm]
    rw [e]
    exact slotW_none 0
theorem cas_no {σ : MS} {o n : Int} (h : ¬ σ.g 0 0 0 = o) (k a f : Int) : (σ.cas 0 0 0 o n).g k a f = σ.g k a f := by
  simp [MS.cas, h]
theorem cas_yes {σ : MS} {n : Int} (k a f : Int) : (σ.cas 0 0 0 (σ.g 0 0 0) n).g k a f = if k = 0 ∧ a = 0 ∧ f = 0 then n else σ.g k a f := by
  unfold MS.cas
  rw [if_pos ⟨by simp, by decide⟩]
  rfl

theorem pop_went {σ : MS} {L : List Int} {t : Int} {held : List Int} {p : PopS} (hs : Stk σ L t) (ht : t + 1 < 281474976710656) (hr : ∀ k a f, 0 ≤ σ.g k a f ∧ σ.g k a f < 18446744073709551616)
    (hg : (OpS.pop p).Good σ t) : ∃ L' t', Went σ L t ⟨held, .pop p⟩ (Th.popped held (p.step σ).1) (p.step σ).2 L' t' := by
  have hok := hg.1.step hr
  obtain ⟨h1, h2, h3, h4, h5⟩ := hg
  obtain ⟨line, head, next, slot, ok⟩ := p
  have hl := h1.line
  simp only at h2 h3 h4 h5 hl
  subst h2
  rcases hl with rfl | rfl | rfl | rfl
  · exact absurd rfl h3
  · have e : (⟨1, head, next, slot, false⟩ : PopS).step σ = (⟨if slotW (σ.g 0 0 0) < 0 then 0 else 2, σ.g 0 0 0, next, slot, false⟩, σ.load 0 0 0) := by simp [PopS.step]
    rw [e] at hok ⊢
    refine ⟨L, t, hs.same (fun _ _ _ => rfl), ?_, by omega, by omega, ?_, fun u hu _ => hu.still (fun _ _ _ => rfl), ?_⟩
    all_goals
      by_cases hz : slotW (σ.g 0 0 0) < 0
      · simp [Th.popped, hz, OpS.Good, Th.own, OpS.slots, OpS.rank, rankOf]
      · simp only [Th.popped, hz, if_false] at hok ⊢
        first
        | (refine ⟨hok, rfl, by simp, fun _ => ⟨Read.now hs.tag rfl, ?_⟩, by simp⟩
           rw [hs.top] at hz ⊢
           rcases topOf_valid hs.valid with e | e
           · omega
           · exact e)
        | (simp [Th.own, OpS.slots]; done)
        | (show rankOf 2 (σ.g 0 0 0 == σ.g 0 0 0) + 1 ≤ rankOf 1 _
           simp [rankOf])
  · have e : (⟨2, head, next, slot, false⟩ : PopS).step σ = (⟨3, head, slotW (σ.g 9 (slotW head) 2), slot, false⟩, σ.load 9 (slotW head) 2) := by simp [PopS.step]
    rw [e] at hok ⊢
    have hx := h4 (by omega)
    refine ⟨L, t, hs.same (fun _ _ _ => rfl), ?_, by omega, by omega, ?_, fun u hu _ => hu.still (fun _ _ _ => rfl), ?_⟩
    · exact ⟨hok, rfl, by simp, fun _ => ⟨hx.1.same_g rfl, hx.2⟩, fun _ _ => rfl⟩
    · simp [Th.popped, Th.own, OpS.slots]
    · exact rankOf_32 (σ.g 0 0 0 == head)
  · have hx := h4 (by omega)
    by_cases hc : σ.g 0 0 0 = head
    · subst hc
      have e : (⟨3, σ.g 0 0 0, next, slot, false⟩ : PopS).step σ = (⟨0, σ.g 0 0 0, next, slotW (σ.g 0 0 0), true⟩, σ.cas 0 0 0 (σ.g 0 0 0) (headW next (σ.g 0 0 0 / 65536 + 1))) := by simp [PopS.step]
      rw [e] at hok ⊢
      have hn := h5 rfl rfl
      have hm := hx.2
      rw [hs.top] at hn hm
      cases L with
      | nil => simp [topOf, mayS] at hm
      | cons x L =>
        simp only [topOf] at hn hm
        have hl0 : slotW (σ.g 9 x 2) = topOf L := by simpa using hs.link 0 x (by simp)
        rw [hl0] at hn
        subst hn
        have hv : ∀ y ∈ L, mayS y = true := fun y hy => hs.valid y (by simp [hy])
        have hd : (σ.cas 0 0 0 (σ.g 0 0 0) (headW (topOf L) (σ.g 0 0 0 / 65536 + 1))).g 0 0 0 = headW (topOf L) (t + 1) := by rw [cas_yes, if_pos ⟨rfl, rfl, rfl⟩, hs.tag]
        have hgo : ∀ k a f, k ≠ 0 → (σ.cas 0 0 0 (σ.g 0 0 0) (headW (topOf L) (σ.g 0 0 0 / 65536 + 1))).g k a f = σ.g k a f := fun k a f hk => by rw [cas_yes, if_neg (by omega)]
        have t0 := hs.t0
        refine ⟨L, t + 1, ⟨hd, fun i y hi => ?_, hv, (List.nodup_cons.1 hs.nodup).2, by omega, ht⟩, trivial, by omega, by omega, ?_, fun u hu _ => hu.turn (by rw [hd]; exact tag_headW _ (by omega) ht) hgo, ?_⟩
        · rw [hgo _ _ _ (by omega)]
          simpa using hs.link (i + 1) y (by simpa using hi)
        · simp only [Th.popped, if_true, Th.own, OpS.slots, List.append_nil, hs.top, topOf]
          rw [← List.append_assoc]
          exact (List.perm_append_singleton x (L ++ held)).trans (by simp)
        · simp [Th.popped, OpS.rank, rankOf]
    · have e : (⟨3, head, next, slot, false⟩ : PopS).step σ = (⟨1, head, next, slot, false⟩, σ.cas 0 0 0 head (headW next (head / 65536 + 1))) := by simp [PopS.step, hc]
      rw [e] at hok ⊢
      refine ⟨L, t, hs.same (cas_no hc), ⟨hok, rfl, by simp, fun e => absurd rfl e, by simp⟩, by omega, by omega, ?_, fun u hu _ => hu.still (cas_no hc), ?_⟩
      · simp [Th.popped, Th.own, OpS.slots]
      · simp [Th.popped, OpS.rank, rankOf, hc]

theorem push_went {σ : MS} {L : List Int} {t : Int} {held : List Int} {p : PushS} (hs : Stk σ L t) (ht : t + 1 < 281474976710656) (hr : ∀ k a f, 0 ≤ σ.g k a f ∧ σ.g k a f < 18446744073709551616)
    (hg : (OpS.push p).Good σ t) (hn : p.slot ∉ L) : ∃ L' t', Went σ L t ⟨held, .push p⟩ (Th.pushed held (p.step σ).1) (p.step σ).2 L' t' := by
  have hok := hg.1.step hr
  obtain ⟨h1, h3, h4, h5⟩ := hg
  obtain ⟨line, head, slot⟩ := p
  have hl := h1.line
  have hmay := h1.slot
  simp only at h3 h4 h5 hl hn hmay
  rcases hl with rfl | rfl | rfl | rfl
  · exact absurd rfl h3
  · have e : (⟨1, head, slot⟩ : PushS).step σ = (⟨2, σ.g 0 0 0, slot⟩, σ.load 0 0 0) := by simp [PushS.step]
    rw [e] at hok ⊢
    refine ⟨L, t, hs.same (fun _ _ _ => rfl), ⟨hok, by simp, fun _ => Read.now hs.tag rfl, by simp⟩, by omega, by omega, ?_, fun u hu _ => hu.still (fun _ _ _ => rfl), ?_⟩
    · simp [Th.pushed, Th.own, OpS.slots]
    · simp [Th.pushed, OpS.rank, rankOf, MS.load]
  · have e : (⟨2, head, slot⟩ : PushS).step σ = (⟨3, head, slot⟩, σ.store 9 slot 2 (headW (slotW head) 0)) := by simp [PushS.step]
    rw [e] at hok ⊢
    have hx := h4 (by omega)
    have hgs : (σ.store 9 slot 2 (headW (slotW head) 0)).g = σ.put 9 slot 2 (headW (slotW head) 0) := by
      unfold MS.store
      rw [if_pos (may_link hmay)]
    have hgo : ∀ k a f, ¬(k = 9 ∧ a = slot ∧ f = 2) → (σ.store 9 slot 2 (headW (slotW head) 0)).g k a f = σ.g k a f := fun k a f h => by
      rw [hgs]
      simp only [MS.put]
      rw [if_neg h]
    have h0 : (σ.store 9 slot 2 (headW (slotW head) 0)).g 0 0 0 = σ.g 0 0 0 := hgo 0 0 0 (by omega)
    refine ⟨L, t, hs.link_out hn hgo, ⟨hok, by simp, fun _ => hx.same_g h0, fun _ => ?_⟩, by omega, by omega, ?_, fun u hu hd => hu.link hs hn (hd slot (by simp [OpS.slots])) hgo, ?_⟩
    · rw [hgs]
      simp only [MS.put, and_self, if_true]
      exact slotW_again head
    · simp [Th.pushed, Th.own, OpS.slots]
    · simp only [Th.pushed, OpS.rank, h0]
      exact rankOf_32 (σ.g 0 0 0 == head)
  · have hx := h4 (by omega)
    by_cases hc : σ.g 0 0 0 = head
    · subst hc
      have e : (⟨3, σ.g 0 0 0, slot⟩ : PushS).step σ = (⟨0, σ.g 0 0 0, slot⟩, σ.cas 0 0 0 (σ.g 0 0 0) (headW slot (σ.g 0 0 0 / 65536 + 1))) := by simp [PushS.step]
      rw [e] at hok ⊢
      have hlk := h5 rfl
      rw [hs.top] at hlk
      have hd : (σ.cas 0 0 0 (σ.g 0 0 0) (headW slot (σ.g 0 0 0 / 65536 + 1))).g 0 0 0 = headW slot (t + 1) := by rw [cas_yes, if_pos ⟨rfl, rfl, rfl⟩, hs.tag]
      have hgo : ∀ k a f, k ≠ 0 → (σ.cas 0 0 0 (σ.g 0 0 0) (headW slot (σ.g 0 0 0 / 65536 + 1))).g k a f = σ.g k a f := fun k a f hk => by rw [cas_yes, if_neg (by omega)]
      have t0 := hs.t0
      refine ⟨slot :: L, t + 1, ⟨hd, fun i y hi => ?_, ?_, List.nodup_cons.2 ⟨hn, hs.nodup⟩, by omega, ht⟩, trivial, by omega, by omega, ?_, fun u hu _ => hu.turn (by rw [hd]; exact tag_headW _ (by omega) ht) hgo, ?_⟩
      · rw [hgo _ _ _ (by omega)]
        cases i with
        | zero =>
          simp at hi
          subst hi
          simpa using hlk
        | succ i =>
          simp at hi
          simpa using hs.link i y hi
      · intro y hy
        rcases List.mem_cons.1 hy with rfl | hy
        · exact hmay
        · exact hs.valid y hy
      · simp only [Th.pushed, if_true, Th.own, OpS.slots, List.append_nil]
        rw [← List.append_assoc]
        exact (by simp : (slot :: L ++ held).Perm (slot :: (L ++ held))).trans (List.perm_append_singleton slot (L ++ held)).symm
      · simp [Th.pushed, OpS.rank, rankOf]
    · have e : (⟨3, head, slot⟩ : PushS).step σ = (⟨1, head, slot⟩, σ.cas 0 0 0 head (headW slot (head / 65536 + 1))) := by simp [PushS.step, hc]
      rw [e] at hok ⊢
      refine ⟨L, t, hs.same (cas_no hc), ⟨hok, by simp, fun e => absurd rfl e, by simp⟩, by omega, by omega, ?_, fun u hu _ => hu.still (cas_no hc), ?_⟩
      · simp [Th.pushed, Th.own, OpS.slots]
      · simp [Th.pushed, OpS.rank, rankOf, hc]

theorem PopS.new_good (σ : MS) (t : Int) : (OpS.pop PopS.new).Good σ t := ⟨PopS.new_ok, rfl, by simp [PopS.new], fun e => absurd rfl e, by simp [PopS.new]⟩
theorem PushS.new_good (σ : MS) (t : Int) {s : Int} (h : mayS s = true) : (OpS.push (PushS.new s)).Good σ t := ⟨PushS.new_ok h, by simp [PushS.new], fun e => absurd rfl e, by simp [PushS.new]⟩

/-- What a thread's beginning leaves. -/
theorem Th.begun_good {σ : MS} {t : Int} {x : Th} (b : Bool) (h : x.op.Good σ t) (hm : ∀ s ∈ x.held, mayS s = true) :
    (x.begun b).op.Good σ t ∧ (x.begun b).own.Perm x.own ∧ (x.begun b).op ≠ .none ∧ (∀ s ∈ (x.begun b).op.slots, s ∈ x.own) := by
  obtain ⟨held, op⟩ := x
  cases op with
  | none =>
    cases b with
    | false => exact ⟨PopS.new_good σ t, by simp [Th.begun, Th.own, OpS.slots], by simp [Th.begun], by simp [Th.begun, OpS.slots]⟩
    | true =>
      cases held with
      | nil => exact ⟨PopS.new_good σ t, by simp [Th.begun, Th.own, OpS.slots], by simp [Th.begun], by simp [Th.begun, OpS.slots]⟩
      | cons s r =>
        refine ⟨PushS.new_good σ t (hm s (by simp)), ?_, by simp [Th.begun], by simp [Th.begun, OpS.slots, PushS.new, Th.own]⟩
        simp only [Th.begun, Th.own, OpS.slots, PushS.new, List.append_nil]
        exact List.perm_append_singleton s r
  | pop p => exact ⟨h, by simp [Th.begun], by simp [Th.begun], by simp [Th.begun, OpS.slots]⟩
  | push p => exact ⟨h, by simp [Th.begun], by simp [Th.begun], by simp [Th.begun, OpS.slots, Th.own]⟩

/-- The law's state: the list L, its tag, the threads; each slot of N just once. -/
structure Inv (N : List Int) (σ : MS) (L : List Int) (t : Int) (ts : List Th) : Prop where
  stk : Stk σ L t
  good : ∀ x ∈ ts, x.op.Good σ t
  perm : (L ++ ts.flatMap Th.own).Perm N
  nodup : N.Nodup
  valid : ∀ s ∈ N, mayS s = true

theorem flatMap_set {α β : Type} (f : α → List β) (ts : List α) (i : Nat) (h : i < ts.length) (y : α) : ((ts.set i y).flatMap f).Perm (f y ++ (ts.eraseIdx i).flatMap f) := by
  induction ts generalizing i with
  | nil => simp at h
  | cons x ts ih =>
    cases i with
    | zero => simp
    | succ i =>
      simp only [List.set_cons_succ, List.eraseIdx_cons_succ, List.flatMap_cons]
      refine ((ih i (by simpa using h)).append_left (f x)).trans ?_
      rw [← List.append_assoc, ← List.append_assoc]
      exact List.perm_append_comm.append_right _
theorem flatMap_get {α β : Type} (f : α → List β) (ts : List α) (i : Nat) (h : i < ts.length) : (ts.flatMap f).Perm (f ts[i] ++ (ts.eraseIdx i).flatMap f) := by
  have := flatMap_set f ts i h ts[i]
  rwa [List.set_getElem_self] at this
theorem mem_set_erase {α : Type} (ts : List α) (i : Nat) (h : i < ts.length) (y z : α) (hz : z ∈ ts.set i y) : z = y ∨ z ∈ ts.eraseIdx i := by
  induction ts generalizing i with
  | nil => simp at h
  | cons x ts ih =>
    cases i with
    | zero =>
      simp at hz
      simpa using hz
    | succ i =>
      simp at hz
      rcases hz with rfl | hz
      · exact .inr (by simp)
      · rcases ih i (by simpa using h) hz with e | e
        · exact .inl e
        · exact .inr (by simp [e])

theorem Inv.step {N : List Int} {σ : MS} {L : List Int} {t : Int} {ts : List Th} (h : Inv N σ L t ts) (i : Nat) (hi : i < ts.length) (b : Bool) (ht : t + 1 < 281474976710656)
    (hr : ∀ k a f, 0 ≤ σ.g k a f ∧ σ.g k a f < 18446744073709551616) :
    ∃ L' t', Inv N (ts[i].step b σ).2 L' t' (ts.set i (ts[i].step b σ).1) ∧ t ≤ t' ∧ t' ≤ t + 1 ∧ (ts[i].op ≠ .none → (ts[i].step b σ).1.op.rank (ts[i].step b σ).2 + 1 ≤ ts[i].op.rank σ) := by
  have hmem : ts[i] ∈ ts := List.getElem_mem _
  have hp := flatMap_get Th.own ts i hi
  have hN : (L ++ (ts[i].own ++ (ts.eraseIdx i).flatMap Th.own)).Perm N := (hp.append_left L).symm.trans h.perm
  have hnd := hN.nodup_iff.2 h.nodup
  have hval : ∀ s ∈ L ++ (ts[i].own ++ (ts.eraseIdx i).flatMap Th.own), mayS s = true := fun s hs => h.valid s (hN.mem_iff.1 hs)
  have hg := h.good _ hmem
  have hrest : ∀ x ∈ ts.eraseIdx i, x.op.Good σ t := fun x hx => h.good x (List.mem_of_mem_eraseIdx hx)
  have hset := flatMap_set Th.own ts i hi
  have hin := mem_set_erase ts i hi
  generalize ts[i] = x at *
  generalize ts.eraseIdx i = R at *
  have hb := Th.begun_good b hg (fun s hs => hval s (by simp [Th.own, hs]))
  obtain ⟨b1, b2, b3, b4⟩ := hb
  have hrank : x.op ≠ .none → (x.begun b).op.rank σ = x.op.rank σ := fun hne => by
    obtain ⟨held, op⟩ := x
    cases op with
    | none => exact absurd rfl hne
    | pop p => rfl
    | push p => rfl
  have hnd' : (L ++ ((x.begun b).own ++ R.flatMap Th.own)).Nodup := ((b2.append_right _).append_left L).nodup_iff.2 hnd
  have hw : ∃ L' t', Went σ L t (x.begun b) ((x.begun b).go σ).1 ((x.begun b).go σ).2 L' t' := by
    generalize hy : x.begun b = y at *
    obtain ⟨held, op⟩ := y
    cases op with
    | none => exact absurd rfl b3
    | pop p => exact pop_went h.stk ht hr b1
    | push p =>
      refine push_went h.stk ht hr b1 (fun hm => ?_)
      exact (List.nodup_append.1 hnd').2.2 _ hm p.slot (by simp [Th.own, OpS.slots]) rfl
  obtain ⟨L', t', hw⟩ := hw
  refine ⟨L', t', ⟨hw.stk, fun z hz => ?_, ?_, h.nodup, h.valid⟩, hw.lo, hw.hi, fun hne => by rw [← hrank hne]; exact hw.rank⟩
  · rcases hin _ z hz with rfl | hz
    · exact hw.good
    · refine hw.others _ (hrest z hz) (fun s h1 h2 => ?_)
      have h3 := (List.nodup_append.1 (List.nodup_append.1 hnd').2.1).2.2
      exact h3 s (by simp [Th.own, h1]) s (List.mem_flatMap.2 ⟨z, hz, by simp [Th.own, h2]⟩) rfl
  · refine ((hset _).append_left L').trans (List.Perm.trans ?_ hN)
    rw [← List.append_assoc, ← List.append_assoc]
    exact (hw.perm.trans (b2.append_left L)).append_right _

end Go.Proofs.YtlecajmnmhpjkaaDoor
