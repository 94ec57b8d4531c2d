/- Gives and takes of one alone: the plain law. -/
import Derived.Test.YtghkdkdlbkmicaaDoorNewGive
import Derived.Test.YtghkdkdlbkmicaaDoorTake
namespace Go.Proofs.YtghkdkdlbkmicaaDoor
open Go.RowKit

section
variable {S : Type} (step : S → MS → S × MS) (line : S → Int) (Ok : S → Prop)
def runOf (s0 : S) (σ0 : MS) : Nat → S × MS
  | 0 => (s0, σ0)
  | n + 1 => step (runOf s0 σ0 n).1 (runOf s0 σ0 n).2
/-- n steps of one alone are behind: it is at s, the memory at σ. -/
structure RunAt (s0 : S) (σ0 : MS) (n : Nat) (s : S) (σ : MS) : Prop where
  run : runOf step s0 σ0 n = (s, σ)
  on : ∀ i, 1 ≤ i → i < n → line (runOf step s0 σ0 i).1 ≠ 0
  ok : ∀ i, i < n → Ok (runOf step s0 σ0 i).1
end
section
variable {S : Type} {step : S → MS → S × MS} {line : S → Int} {Ok : S → Prop} {s0 s s' : S} {σ0 σ σ' : MS} {n : Nat}
theorem RunAt.zero (s0 : S) (σ0 : MS) : RunAt step line Ok s0 σ0 0 s0 σ0 := ⟨rfl, fun i h1 h2 => by omega, fun i h => by omega⟩
theorem RunAt.next (h : RunAt step line Ok s0 σ0 n s σ) (hl : line s ≠ 0) (hok : Ok s) (hs : step s σ = (s', σ')) : RunAt step line Ok s0 σ0 (n + 1) s' σ' := by
  refine ⟨?_, fun i h1 h2 => ?_, fun i hi => ?_⟩
  · show step (runOf step s0 σ0 n).1 (runOf step s0 σ0 n).2 = _
    rw [h.run]
    exact hs
  · rcases Nat.lt_or_ge i n with h3 | h3
    · exact h.on i h1 h3
    · obtain rfl : i = n := by omega
      rw [h.run]
      exact hl
  · rcases Nat.lt_or_ge i n with h3 | h3
    · exact h.ok i h3
    · obtain rfl : i = n := by omega
      rw [h.run]
      exact hok
end

abbrev GAt := RunAt GiveS.step GiveS.line GiveS.Ok
abbrev TAt := RunAt TakeS.step TakeS.line TakeS.Ok

/-- The top of a list of slots; none: -1. -/
def otop : List Int → Int
  | [] => -1
  | x :: _ => x
/-- Slots one behind the other by their links. -/
def Linked (g : Int → Int → Int → Int) : List Int → Prop
  | [] => True
  | x :: L => slotW (g 9 x 2) = otop L ∧ Linked g L
theorem Linked.other {g g' : Int → Int → Int → Int} : ∀ {L : List Int}, Linked g L → (∀ s ∈ L, g' 9 s 2 = g 9 s 2) → Linked g' L
  | [], _, _ => trivial
  | x :: L, h, hg => ⟨by rw [hg x (by simp)]; exact h.1, h.2.other (fun s hs => hg s (by simp [hs]))⟩

theorem slotW_headW {s t : Int} (h : s = -1 ∨ (0 ≤ s ∧ s < 256)) (_t0 : 0 ≤ t) : slotW (headW s t) = s := by
  have key : headW s t % 65536 = s + 1 := by
    unfold headW
    rcases h with rfl | ⟨h0, h1⟩
    · rw [if_neg (by decide)]
      omega
    · rw [if_pos (by simp [mayS]; omega)]
      omega
  unfold slotW
  rw [key]
  rcases h with rfl | ⟨h0, h1⟩
  · rw [if_neg (by decide)]
  · rw [if_pos (by simp [mayS]; omega)]
    omega

/-- The stack holds these slots, the first one on top. -/
structure OStk (g : Int → Int → Int → Int) (L : List Int) : Prop where
  top : slotW (g 4 0 0) = otop L
  links : Linked g L
  slots : ∀ s ∈ L, 0 ≤ s ∧ s < 256
theorem otop_may {L : List Int} (h : ∀ s ∈ L, 0 ≤ s ∧ s < 256) : otop L = -1 ∨ (0 ≤ otop L ∧ otop L < 256) := by
  cases L with
  | nil => exact .inl rfl
  | cons x L => exact .inr (h x (by simp))


/-- The words of the memory but links of these slots, and the stack's head, are as they were. -/
def Others (g g' : Int → Int → Int → Int) (ss : List Int) : Prop := ∀ a b c, ¬(a = 4 ∧ b = 0 ∧ c = 0) → ¬(a = 9 ∧ b ∈ ss ∧ c = 2) → g' a b c = g a b c

/-- All slots but the last one are linked. -/
def LinkedTo (g : Int → Int → Int → Int) (ss : List Int) (k : Nat) : Prop := ∀ j, j < k → j + 1 < ss.length → slotW (g 9 (ss.getD j 0) 2) = ss.getD (j + 1) 0

theorem linked_of {g : Int → Int → Int → Int} {L : List Int} : ∀ (ss : List Int), ss ≠ [] → LinkedTo g ss ss.length → slotW (g 9 (ss.getD (ss.length - 1) 0) 2) = otop L → Linked g L → Linked g (ss ++ L)
  | [], h, _, _, _ => absurd rfl h
  | [x], _, _, hl, hL => ⟨hl, hL⟩
  | x :: y :: ss, _, ht, hl, hL => by
    refine ⟨by simpa [otop] using ht 0 (by simp) (by simp), linked_of (y :: ss) (by simp) (fun j h1 h2 => ?_) ?_ hL⟩
    · have := ht (j + 1) (by simp at h1 ⊢; omega) (by simp at h2 ⊢; omega)
      simpa using this
    · simpa using hl

theorem store_at {σ : MS} {s v : Int} (hs : 0 ≤ s ∧ s < 256) (k a f : Int) : (σ.store 9 s 2 v).g k a f = if k = 9 ∧ a = s ∧ f = 2 then v else σ.g k a f := by
  unfold MS.store
  rw [if_pos (mayA_slot hs (by omega) (by omega))]
  rfl
theorem cas4_yes {σ : MS} {o n : Int} (h : σ.g 4 0 0 = o) (k a f : Int) : (σ.cas 4 0 0 o n).g k a f = if k = 4 ∧ a = 0 ∧ f = 0 then n else σ.g k a f := by
  unfold MS.cas
  rw [if_pos ⟨by simpa using h, by decide⟩]
  rfl

theorem getD_mem {ss : List Int} {j : Nat} (h : j < ss.length) : ss.getD j 0 ∈ ss := by
  rw [List.getD_eq_getElem?_getD, List.getElem?_eq_getElem h]
  exact List.getElem_mem _
theorem getD_inj {ss : List Int} (hn : ss.Nodup) {i j : Nat} (hi : i < ss.length) (hj : j < ss.length) (h : ss.getD i 0 = ss.getD j 0) : i = j := by
  rw [List.getD_eq_getElem?_getD, List.getElem?_eq_getElem hi, List.getD_eq_getElem?_getD, List.getElem?_eq_getElem hj] at h
  rcases Nat.lt_trichotomy i j with h1 | h1 | h1
  · exact absurd (by simpa using h) (List.pairwise_iff_getElem.1 hn i j hi hj h1)
  · exact h1
  · exact absurd (by simpa using h.symm) (List.pairwise_iff_getElem.1 hn j i hj hi h1)

section
variable {σ0 : MS} {ss L : List Int}

theorem gok {line head : Int} {at_ : Nat} (hss : ∀ s ∈ ss, 0 ≤ s ∧ s < 256) (h1 : 1 ≤ ss.length) (hl : ss.length ≤ 1000) (h : (line = 1 ∧ at_ + 2 ≤ ss.length) ∨ line = 2 ∨ line = 3 ∨ line = 4) (h0 : 0 ≤ head) (h2 : head < 18446744073709551616) : (⟨line, head, ss, at_⟩ : GiveS).Ok :=
  ⟨.inr h, fun _ => h1, hl, hss, h0, h2⟩

/-- The links are laid. -/
theorem give_links (hss : ∀ s ∈ ss, 0 ≤ s ∧ s < 256) (hn : ss.Nodup) (h2 : 2 ≤ ss.length) (hl : ss.length ≤ 1000) (k : Nat) (hk : k + 1 ≤ ss.length) :
    ∃ σ, GAt (GiveS.new ss) σ0 k ⟨if k + 1 = ss.length then 2 else 1, 0, ss, k⟩ σ ∧ LinkedTo σ.g ss k ∧ Others σ0.g σ.g ss ∧ σ.g 4 0 0 = σ0.g 4 0 0 := by
  induction k with
  | zero =>
    refine ⟨σ0, ?_, fun j h => by omega, fun _ _ _ _ _ => rfl, rfl⟩
    have e : GiveS.new ss = ⟨if 0 + 1 = ss.length then 2 else 1, 0, ss, 0⟩ := by
      unfold GiveS.new
      rw [if_neg (by omega), if_neg (by omega), if_neg (by omega)]
    rw [← e]
    exact RunAt.zero _ _
  | succ k ih =>
    obtain ⟨σ, h, hL, hO, h4⟩ := ih (by omega)
    rw [if_neg (by omega)] at h
    have hs1 := hss _ (getD_mem (ss := ss) (j := k) (by omega))
    have hs2 := hss _ (getD_mem (ss := ss) (j := k + 1) (by omega))
    have hst := fun a b c => store_at (σ := σ) (s := ss.getD k 0) (v := headW (ss.getD (k + 1) 0) 0) hs1 a b c
    refine ⟨σ.store 9 (ss.getD k 0) 2 (headW (ss.getD (k + 1) 0) 0), h.next (by simp) (gok hss (by omega) hl (.inl ⟨rfl, by omega⟩) (by omega) (by omega)) ?_, fun j h1 h3 => ?_, fun a b c n1 n2 => ?_, ?_⟩
    · simp [GiveS.step]
    · rw [hst]
      by_cases e : j = k
      · subst e
        rw [if_pos ⟨rfl, rfl, rfl⟩, slotW_headW (.inr hs2) (by omega)]
      · rw [if_neg (fun hh => e (getD_inj hn (by omega) (by omega) hh.2.1))]
        exact hL j (by omega) h3
    · rw [hst, if_neg (fun hh => n2 ⟨hh.1, by rw [hh.2.1]; exact getD_mem (by omega), hh.2.2⟩)]
      exact hO a b c n1 n2
    · rw [hst, if_neg (by omega)]
      exact h4

/-- One alone gives: over in two steps more than there are entries; they lie on the stack. -/
theorem give_alone (hss : ∀ s ∈ ss, 0 ≤ s ∧ s < 256) (hn : ss.Nodup) (h1 : 1 ≤ ss.length) (hl : ss.length ≤ 1000) (hL : OStk σ0.g L) (hd : ∀ s ∈ ss, s ∉ L) (hr : ∀ k a f, 0 ≤ σ0.g k a f ∧ σ0.g k a f < 18446744073709551616) :
    ∃ g' σ, GAt (GiveS.new ss) σ0 (ss.length + 2) g' σ ∧ g'.line = 0 ∧ OStk σ.g (ss ++ L) ∧ Others σ0.g σ.g ss := by
  have hlk : ∃ n at_ σ, n + 1 = ss.length ∧ GAt (GiveS.new ss) σ0 n ⟨2, 0, ss, at_⟩ σ ∧ LinkedTo σ.g ss n ∧ Others σ0.g σ.g ss ∧ σ.g 4 0 0 = σ0.g 4 0 0 := by
    rcases Nat.lt_or_ge ss.length 2 with h | h
    · refine ⟨0, 0, σ0, by omega, ?_, fun j h => by omega, fun _ _ _ _ _ => rfl, rfl⟩
      have e : GiveS.new ss = ⟨2, 0, ss, 0⟩ := by
        unfold GiveS.new
        rw [if_neg (by omega), if_pos (by omega)]
      rw [← e]
      exact RunAt.zero _ _
    · obtain ⟨σ, h1, h2, h3, h4⟩ := give_links (σ0 := σ0) hss hn h hl (ss.length - 1) (by omega)
      rw [if_pos (by omega)] at h1
      exact ⟨ss.length - 1, _, σ, by omega, h1, h2, h3, h4⟩
  obtain ⟨n, at_, σ, hn1, h, hT, hO, h4⟩ := hlk
  have hr4 := hr 4 0 0
  have s1 := h.next (s' := ⟨3, σ.g 4 0 0, ss, at_⟩) (σ' := σ.load 4 0 0) (by simp) (gok hss h1 hl (.inr (.inl rfl)) (by omega) (by omega)) (by simp [GiveS.step])
  have hs0 := hss _ (getD_mem (ss := ss) (j := ss.length - 1) (by omega))
  have s2 := s1.next (s' := ⟨4, σ.g 4 0 0, ss, at_⟩) (σ' := (σ.load 4 0 0).store 9 (ss.getD (ss.length - 1) 0) 2 (headW (slotW (σ.g 4 0 0)) 0)) (by simp) (gok hss h1 hl (.inr (.inr (.inl rfl))) (by rw [h4]; exact hr4.1) (by rw [h4]; exact hr4.2)) (by simp [GiveS.step])
  have hst := fun a b c => store_at (σ := σ.load 4 0 0) (s := ss.getD (ss.length - 1) 0) (v := headW (slotW (σ.g 4 0 0)) 0) hs0 a b c
  generalize (σ.load 4 0 0).store 9 (ss.getD (ss.length - 1) 0) 2 (headW (slotW (σ.g 4 0 0)) 0) = τ at s2 hst
  have hτ4 : τ.g 4 0 0 = σ.g 4 0 0 := by
    rw [hst, if_neg (by omega)]
    rfl
  have s3 := s2.next (s' := ⟨0, σ.g 4 0 0, ss, at_⟩) (σ' := τ.cas 4 0 0 (σ.g 4 0 0) (headW (ss.getD 0 0) (σ.g 4 0 0 / 65536 + 1))) (by simp) (gok hss h1 hl (.inr (.inr (.inr rfl))) (by rw [h4]; exact hr4.1) (by rw [h4]; exact hr4.2)) (by simp [GiveS.step, hτ4])
  have hct := fun a b c => cas4_yes (n := headW (ss.getD 0 0) (σ.g 4 0 0 / 65536 + 1)) hτ4 a b c
  have hm0 := hss _ (getD_mem (ss := ss) (j := 0) (by omega))
  refine ⟨_, _, by rw [show ss.length + 2 = n + 1 + 1 + 1 by omega]; exact s3, rfl, ⟨?_, ?_, fun s hs => ?_⟩, fun a b c n1 n2 => ?_⟩
  · rw [hct, if_pos ⟨rfl, rfl, rfl⟩, slotW_headW (.inr hm0) (by rw [h4]; omega)]
    cases ss with
    | nil => simp at h1
    | cons x ss => rfl
  · have hlinks : ∀ s, (τ.cas 4 0 0 (σ.g 4 0 0) (headW (ss.getD 0 0) (σ.g 4 0 0 / 65536 + 1))).g 9 s 2 = if s = ss.getD (ss.length - 1) 0 then headW (slotW (σ.g 4 0 0)) 0 else σ.g 9 s 2 := fun s => by
      rw [hct, if_neg (by omega), hst]
      by_cases e : s = ss.getD (ss.length - 1) 0
      · rw [if_pos ⟨rfl, e, rfl⟩, if_pos e]
      · rw [if_neg (fun hh => e hh.2.1), if_neg e]
        rfl
    refine linked_of ss (fun e => by rw [e] at h1; simp at h1) (fun j j1 j2 => ?_) ?_ (hL.links.other (fun s hs => ?_))
    · rw [hlinks, if_neg (fun hh => by have := getD_inj hn (by omega) (by omega) hh; omega)]
      exact hT j (by omega) j2
    · rw [hlinks, if_pos rfl, h4, hL.top, slotW_headW (otop_may hL.slots) (by omega)]
    · rw [hlinks, if_neg (fun hh => hd _ (getD_mem (j := ss.length - 1) (by omega)) (by rw [← hh]; exact hs))]
      exact hO 9 s 2 (by omega) (fun hh => hd s hh.2.1 hs)
  · rcases List.mem_append.1 hs with h | h
    · exact hss s h
    · exact hL.slots s h
  · rw [hct, if_neg n1, hst, if_neg (fun hh => n2 ⟨hh.1, by rw [hh.2.1]; exact getD_mem (by omega), hh.2.2⟩)]
    exact hO a b c n1 n2

/-- The entry that a slot's words say. -/
def entOf (g : Int → Int → Int → Int) (s : Int) : Ent6 := ⟨s, hdrG (g 9 s 0), false, g 9 s 1, g 9 s 3, g 9 s 4⟩

theorem tok {line head slot : Int} {e : Ent6} {got : List Ent6} (h : line = 1 ∨ line = 2 ∨ line = 3 ∨ line = 4 ∨ line = 5 ∨ line = 6 ∨ line = 7) (hl : got.length ≤ 1000) (h0 : 0 ≤ head) (h2 : head < 18446744073709551616) : (⟨line, head, slot, e, got⟩ : TakeS).Ok :=
  ⟨.inr h, hl, h0, h2⟩

/-- What was swapped out is read, one slot behind the other. -/
theorem take_chain {head : Int} (h0 : 0 ≤ head) (h2 : head < 18446744073709551616) (R : List Int) : ∀ (n : Nat) (t : TakeS) (σ : MS) (done : List Ent6), TAt TakeS.new σ0 n t σ → t.line = 3 → t.head = head → t.got = done → R ≠ [] → t.slot = otop R → Linked σ.g R → (∀ s ∈ R, 0 ≤ s ∧ s < 256) → done.length + R.length ≤ 256 →
    ∃ t' σ', TAt TakeS.new σ0 (n + 5 * R.length) t' σ' ∧ t'.line = 0 ∧ t'.got = done ++ R.map (entOf σ.g) ∧ σ'.g = σ.g := by
  induction R with
  | nil => intro n t σ done _ _ _ _ h; exact absurd rfl h
  | cons x R ih =>
    rintro n ⟨line, hd, slot, ⟨e0, e1, e2, e3, e4, e5⟩, got⟩ σ done h hline hhd hgot _ hslot hlk hsl hlen
    simp only at hline hhd hgot hslot
    subst hline hhd hgot
    simp only [otop] at hslot
    subst hslot
    simp only [List.length_cons] at hlen
    have hl1 : got.length ≤ 1000 := by omega
    have s3 := h.next (s' := ⟨4, hd, slot, ⟨slot, hdrG (σ.g 9 slot 0), false, e3, e4, e5⟩, got⟩) (σ' := σ.load 9 slot 0) (by simp) (tok (by simp) hl1 h0 h2) (by simp [TakeS.step])
    have s4 := s3.next (s' := ⟨5, hd, slot, ⟨slot, hdrG (σ.g 9 slot 0), false, σ.g 9 slot 1, e4, e5⟩, got⟩) (σ' := (σ.load 9 slot 0).load 9 slot 1) (by simp) (tok (by simp) hl1 h0 h2) (by simp [TakeS.step, MS.load])
    have s5 := s4.next (s' := ⟨6, hd, slot, ⟨slot, hdrG (σ.g 9 slot 0), false, σ.g 9 slot 1, σ.g 9 slot 3, e5⟩, got⟩) (σ' := ((σ.load 9 slot 0).load 9 slot 1).load 9 slot 3) (by simp) (tok (by simp) hl1 h0 h2) (by simp [TakeS.step, MS.load])
    have s6 := s5.next (s' := ⟨7, hd, slot, entOf σ.g slot, got ++ [entOf σ.g slot]⟩) (σ' := (((σ.load 9 slot 0).load 9 slot 1).load 9 slot 3).load 9 slot 4) (by simp) (tok (by simp) hl1 h0 h2) (by simp [TakeS.step, MS.load, entOf])
    have hg6 : ((((σ.load 9 slot 0).load 9 slot 1).load 9 slot 3).load 9 slot 4).g = σ.g := rfl
    generalize (((σ.load 9 slot 0).load 9 slot 1).load 9 slot 3).load 9 slot 4 = τ at s6 hg6
    have hl2 : (got ++ [entOf σ.g slot]).length ≤ 1000 := by simp; omega
    have htop : slotW (τ.g 9 slot 2) = otop R := by rw [hg6]; exact hlk.1
    cases R with
    | nil =>
      have s7 := s6.next (s' := ⟨0, hd, -1, entOf σ.g slot, got ++ [entOf σ.g slot]⟩) (σ' := τ.load 9 slot 2) (by simp) (tok (by simp) hl2 h0 h2) (by simp [TakeS.step, htop, otop])
      exact ⟨_, _, s7, rfl, rfl, hg6⟩
    | cons y R =>
      have hy := hsl y (by simp)
      have hlt : ¬ (slotW (τ.g 9 slot 2) < 0 ∨ 256 ≤ (got ++ [entOf σ.g slot]).length) := by
        have h1 : (got ++ [entOf σ.g slot]).length = got.length + 1 := by simp
        simp only [List.length_cons] at hlen
        rw [htop, h1]
        simp only [otop]
        omega
      have s7 := s6.next (s' := ⟨3, hd, y, entOf σ.g slot, got ++ [entOf σ.g slot]⟩) (σ' := τ.load 9 slot 2) (by simp) (tok (by simp) hl2 h0 h2) (by
        simp only [TakeS.step]
        rw [if_neg (by omega), if_neg (by omega), if_neg (by omega), if_neg (by omega), if_neg (by omega), if_neg (by omega), if_pos trivial, if_neg hlt, htop]
        rfl)
      obtain ⟨t', σ', k1, k2, k3, k4⟩ := ih (n + 5) _ _ _ s7 rfl rfl rfl (by simp) rfl (by rw [show (τ.load 9 slot 2).g = σ.g from hg6]; exact hlk.2) (fun s hs => hsl s (by simp [hs])) (by simp at hlen ⊢; omega)
      refine ⟨t', σ', by rw [show n + 5 * (slot :: y :: R).length = n + 5 + 5 * (y :: R).length by simp; omega]; exact k1, k2, ?_, by rw [k4]; exact hg6⟩
      rw [k3, show (τ.load 9 slot 2).g = σ.g from hg6]
      simp

/-- One alone takes what lies on the stack. -/
theorem take_alone (hL : OStk σ0.g L) (hne : L ≠ []) (hlen : L.length ≤ 256) (hr : ∀ k a f, 0 ≤ σ0.g k a f ∧ σ0.g k a f < 18446744073709551616) :
    ∃ t' σ, TAt TakeS.new σ0 (5 * L.length + 2) t' σ ∧ t'.line = 0 ∧ t'.got = L.map (entOf σ0.g) ∧ OStk σ.g [] ∧ Others σ0.g σ.g [] := by
  have hr4 := hr 4 0 0
  obtain ⟨x, R, rfl⟩ := List.exists_cons_of_ne_nil hne
  have hx := hL.slots x (by simp)
  have htop : slotW (σ0.g 4 0 0) = x := hL.top
  have s1 := (RunAt.zero (step := TakeS.step) (line := TakeS.line) (Ok := TakeS.Ok) TakeS.new σ0).next (s' := ⟨2, σ0.g 4 0 0, 0, ⟨0, 0, false, 0, 0, 0⟩, []⟩) (σ' := σ0.load 4 0 0) (by simp [TakeS.new]) (tok (by simp) (by simp) (by simp) (by simp)) (by
    simp only [TakeS.step, TakeS.new]
    rw [if_pos trivial, htop, if_neg (by omega)])
  have s2 := s1.next (s' := ⟨3, σ0.g 4 0 0, x, ⟨0, 0, false, 0, 0, 0⟩, []⟩) (σ' := (σ0.load 4 0 0).cas 4 0 0 (σ0.g 4 0 0) (headW (-1) (σ0.g 4 0 0 / 65536 + 1))) (by simp) (tok (by simp) (by simp) hr4.1 hr4.2) (by simp [TakeS.step, MS.load, htop])
  have hct := fun a b c => cas4_yes (σ := σ0.load 4 0 0) (n := headW (-1) (σ0.g 4 0 0 / 65536 + 1)) (o := σ0.g 4 0 0) rfl a b c
  generalize (σ0.load 4 0 0).cas 4 0 0 (σ0.g 4 0 0) (headW (-1) (σ0.g 4 0 0 / 65536 + 1)) = τ at s2 hct
  have hg9 : ∀ s f, τ.g 9 s f = σ0.g 9 s f := fun s f => by
    rw [hct, if_neg (by omega)]
    rfl
  obtain ⟨t', σ', k1, k2, k3, k4⟩ := take_chain (σ0 := σ0) hr4.1 hr4.2 (x :: R) 2 _ _ [] s2 rfl rfl rfl (by simp) rfl (hL.links.other (fun s _ => hg9 s 2)) hL.slots (by simpa using hlen)
  refine ⟨t', σ', by rw [show 5 * (x :: R).length + 2 = 2 + 5 * (x :: R).length by omega]; exact k1, k2, ?_, ⟨?_, trivial, by simp⟩, fun a b c n1 _ => ?_⟩
  · rw [k3, List.nil_append]
    apply List.map_congr_left
    intro s _
    unfold entOf
    rw [hg9, hg9, hg9, hg9]
  · rw [k4, hct, if_pos ⟨rfl, rfl, rfl⟩, slotW_headW (.inl rfl) (by omega)]
    rfl
  · rw [k4, hct, if_neg n1]
    rfl

/-- .. or finds it empty. -/
theorem take_none (hL : OStk σ0.g []) : ∃ t' σ, TAt TakeS.new σ0 1 t' σ ∧ t'.line = 0 ∧ t'.got = [] ∧ σ.g = σ0.g := by
  have htop : slotW (σ0.g 4 0 0) = -1 := hL.top
  have s1 := (RunAt.zero (step := TakeS.step) (line := TakeS.line) (Ok := TakeS.Ok) TakeS.new σ0).next (s' := ⟨0, σ0.g 4 0 0, 0, ⟨0, 0, false, 0, 0, 0⟩, []⟩) (σ' := σ0.load 4 0 0) (by simp [TakeS.new]) (tok (by simp) (by simp) (by simp) (by simp)) (by
    simp only [TakeS.step, TakeS.new]
    rw [if_pos trivial, htop, if_pos (by omega)])
  exact ⟨_, _, s1, rfl, rfl, rfl⟩
end

end Go.Proofs.YtghkdkdlbkmicaaDoor
