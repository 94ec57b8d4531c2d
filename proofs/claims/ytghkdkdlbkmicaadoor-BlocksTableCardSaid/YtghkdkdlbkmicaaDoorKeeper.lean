/- Threads that join and leave, while blocks come and go: a Leave's step, a keeper's step. -/
import Derived.Test.YtghkdkdlbkmicaaDoorActSteps
namespace Go.Proofs.YtghkdkdlbkmicaaDoor.law11
open Go.RowKit

section
variable {E : Int} {cl : Int → Bool} {σ : MS} {xs : List Act}

/-- What a step of a Leave leaves. -/
def LeftOk (E : Int) (cl : Int → Bool) (xs : List Act) (i : Nat) (n t : Int) (l' : LeaveS) (g' : Int → Int → Int → Int) : Prop :=
  Inv E cl g' (xs.set i (Act.left t l')) ∧ g' 5 0 0 = n ∧ (l'.line = 0 → l'.e = 0)

theorem Inv.leave (h : Inv E cl σ.g xs) (hr : ∀ k a f, 0 ≤ σ.g k a f ∧ σ.g k a f < 18446744073709551616) (i : Nat) (hi : i < xs.length) {t : Int} {l : LeaveS} (he : xs[i] = ⟨t, .leave l⟩) :
    LeftOk E cl xs i (σ.g 5 0 0) t (l.step σ).1 (l.step σ).2.g := by
  have hg := h.good i hi
  rw [he] at hg
  obtain ⟨h1, h2, h3, h5, h6, h7⟩ := hg
  obtain ⟨line, block, word, e, th⟩ := l
  simp only at h1 h2 h3 h5 h6 h7
  have h4 := h.E4
  have h8 := h.len
  have hbl : xs[i].block = block := by rw [he]; rfl
  have hol : xs[i].own = if line ≤ 4 then th else -1 := by rw [he]; rfl
  have hown : line ≤ 4 → σ.g 8 th 0 = i + 1 := fun e1 => by
    rw [if_pos e1] at hol
    rw [← hol]
    exact h.own i hi (by omega)
  have hin := h.zero th h1 (by omega)
  have hr7 := hr 7 block 0
  rcases (show line = 1 ∨ line = 2 ∨ line = 3 ∨ line = 4 ∨ line = 5 ∨ line = 6 by omega) with rfl | rfl | rfl | rfl | rfl | rfl
  · have hne : ¬ σ.g 8 th 0 = 0 := by
      rw [hown (by omega)]
      omega
    have es : (⟨1, block, word, e, th⟩ : LeaveS).step σ = (⟨2, block, word, e, th⟩, σ.load 8 th 0) := by simp [LeaveS.step, hne]
    rw [es]
    refine ⟨h.still i hi (Act.left t ⟨2, block, word, e, th⟩) ⟨h1, h2, h3, by simp, by simp, fun e => by simp at e⟩ (fun _ _ _ _ => rfl) ?_ ?_, rfl, fun e => by simp at e⟩
    · rw [hbl]
      rfl
    · rw [hol]
      rfl
  · have es : (⟨2, block, word, e, th⟩ : LeaveS).step σ = (⟨3, block, word, e, th⟩, σ.load 8 th 1) := by simp [LeaveS.step, hin]
    rw [es]
    refine ⟨h.still i hi (Act.left t ⟨3, block, word, e, th⟩) ⟨h1, h2, h3, by simp, by simp, fun e => by simp at e⟩ (fun _ _ _ _ => rfl) ?_ ?_, rfl, fun e => by simp at e⟩
    · rw [hbl]
      rfl
    · rw [hol]
      rfl
  · have hmay : mayA 8 th 6 = true := may8 (by omega) (by omega) (by omega) (by omega)
    have es : (⟨3, block, word, e, th⟩ : LeaveS).step σ = (⟨4, block, word, e, th⟩, σ.store 8 th 6 0) := by simp [LeaveS.step]
    rw [es]
    refine ⟨h.still i hi (Act.left t ⟨4, block, word, e, th⟩) ⟨h1, h2, h3, by simp, by simp, fun e => by simp at e⟩ (fun a b c hc => by simp only; rw [store_g hmay, if_neg (by omega)]) ?_ ?_, by simp only; rw [store_g hmay, if_neg (by omega)], fun e => by simp at e⟩
    · rw [hbl]
      rfl
    · rw [hol]
      rfl
  · have hmay : mayA 8 th 0 = true := may8 (by omega) (by omega) (by omega) (by omega)
    have es : (⟨4, block, word, e, th⟩ : LeaveS).step σ = (⟨5, block, word, e, th⟩, σ.store 8 th 0 0) := by simp [LeaveS.step]
    rw [es]
    have hx' : Act.left t ⟨5, block, word, e, th⟩ = ⟨t, .leave ⟨5, block, word, e, th⟩⟩ := by simp [Act.left]
    unfold LeftOk
    simp only
    rw [hx']
    have hg' := fun a c d => store_g (σ := σ) (n := 0) hmay a c d
    have hbk : (⟨t, .leave ⟨5, block, word, e, th⟩⟩ : Act).block = xs[i].block := by
      rw [hbl]
      rfl
    have hok : (⟨t, .leave ⟨5, block, word, e, th⟩⟩ : Act).own = -1 := rfl
    rw [if_pos (by omega)] at hol
    refine ⟨h.next i hi ⟨t, .leave ⟨5, block, word, e, th⟩⟩ ⟨h1, h2, h3, by simp, by simp, fun e => by simp at e⟩ (by rw [hg', if_neg (by omega)]) (fun b b0 b4 => ?_) (fun b b0 b4 hcc => ?_) (fun s t0 t1 => ?_) (fun h0 => ?_) (fun s s0 hs h0 => ?_) (fun s s0 hs hs2 => ?_) (fun h0 _ => ?_), by rw [hg', if_neg (by omega)], fun e => by simp at e⟩
    · rw [cnt_same xs i hi _ hbk, hg', if_neg (by omega)]
      exact h.word b b0 b4
    · rw [cnt_same xs i hi _ hbk]
      exact h.shut b b0 b4 hcc
    · rw [hg', if_neg (by omega)]
      exact h.zero s t0 t1
    · rw [hok] at h0
      omega
    · rw [hg'] at h0 ⊢
      by_cases e1 : s = th
      · rw [if_pos ⟨rfl, e1, rfl⟩] at h0
        exact absurd rfl h0
      · rw [if_neg (by omega)]
        exact ⟨rfl, by rw [hol]; exact e1⟩
    · rw [hg', if_neg (by omega)]
    · rw [hok] at h0
      omega
  · have es : (⟨5, block, word, e, th⟩ : LeaveS).step σ = (⟨6, block, σ.g 7 block 0, e, th⟩, σ.load 7 block 0) := by simp [LeaveS.step]
    rw [es]
    have hcp := cnt_pos xs i hi
    rw [hbl] at hcp
    have hcn := cnt_le xs block
    refine ⟨h.still i hi (Act.left t ⟨6, block, σ.g 7 block 0, e, th⟩) ⟨h1, h2, h3, by simp, by simp, fun _ => ⟨hr7.1, hr7.2, ?_⟩⟩ (fun _ _ _ _ => rfl) ?_ ?_, rfl, fun e => by simp at e⟩
    · simp only
      rw [h.word block (by omega) (by omega), blkN_blockW (by omega) (by omega)]
      omega
    · rw [hbl]
      rfl
    · rw [hol]
      rfl
  · have hmay : mayA 7 block 0 = true := may7 (by omega) (by omega)
    obtain ⟨w1, w2, w3⟩ := h7 rfl
    rw [if_neg (by omega)] at hol
    cases hcas : (σ.g 7 block 0 == word)
    · have es : (⟨6, block, word, e, th⟩ : LeaveS).step σ = (⟨5, block, word, e, th⟩, σ.cas 7 block 0 word (blockW (blkN word - 1) (blkC word))) := by simp [LeaveS.step, hcas]
      rw [es]
      refine ⟨h.still i hi (Act.left t ⟨5, block, word, e, th⟩) ⟨h1, h2, h3, by simp, by simp, fun e => by simp at e⟩ (fun _ _ _ _ => by rw [cas_no hcas]) ?_ ?_, by simp only [cas_no hcas], fun e => by simp at e⟩
      · rw [hbl]
        rfl
      · rw [hol]
        rfl
    · have es : (⟨6, block, word, e, th⟩ : LeaveS).step σ = (⟨0, block, word, 0, th⟩, σ.cas 7 block 0 word (blockW (blkN word - 1) (blkC word))) := by simp [LeaveS.step, hcas]
      rw [es]
      have hx' : Act.left t ⟨0, block, word, 0, th⟩ = ⟨-1, .none⟩ := by simp [Act.left]
      unfold LeftOk
      simp only
      rw [hx']
      exact ⟨h.lessened hr i hi (by simp [Good]) (by omega) (by omega) (by rw [hol]; rfl) hbl (by simp [Act.block]) hcas hmay, by rw [cas_g hmay hcas, if_neg (by omega)], fun _ => by trivial⟩

/-- Other words of the table, none of an actor's: the keeper's step. -/
theorem Inv.kept {E' : Int} {cl' : Int → Bool} {g g' : Int → Int → Int → Int} (h : Inv E cl g xs) (hE : E ≤ E') (hE4 : E' ≤ 4) (n1 : 1 ≤ g' 5 0 0) (nE : g' 5 0 0 ≤ E')
    (hw : ∀ b, 0 ≤ b → b < 4 → g' 7 b 0 = blockW (cnt xs b) (cl' b)) (hs : ∀ b, 0 ≤ b → b < 4 → cl' b = true → cnt xs b = 0) (hg : ∀ t f, g' 8 t f = g 8 t f) : Inv E' cl' g' xs :=
  ⟨h.len, n1, nE, hE4, hw, hs, fun t t0 t1 => by rw [hg]; exact h.zero t t0 t1, fun i hi h0 => by rw [hg]; exact h.own i hi h0, fun t t0 t1 ht => h.owned t t0 t1 (by rw [← hg]; exact ht), fun i hi => (h.good i hi).mono hE⟩

def KOp.mored (k : BlkS) : KOp := if k.line = 0 then .none else .more k
def KOp.lessed (k : BlkS) : KOp := if k.line = 0 then .none else .less k
def KOp.begun (K : KOp) (grow : Bool) : KOp :=
  match K with
  | .none => if grow = true then .more BlkS.new else .less BlkS.new
  | K => K
def KOp.rank : KOp → Nat
  | .none => 0
  | .more k => (4 - k.line).toNat
  | .less k => (4 - k.line).toNat
theorem KInv.begun {n : Int} {K : KOp} (h : KInv E cl n K) (grow : Bool) : KInv E cl n (K.begun grow) := by
  cases K with
  | none =>
    unfold KOp.begun
    simp only
    split
    · exact .inl ⟨rfl, h⟩
    · exact .inl ⟨rfl, h⟩
  | more k => exact h
  | less k => exact h

theorem KInv.rank {n : Int} {K : KOp} (h : KInv E cl n K) : K.rank ≤ 3 ∧ (K.rank = 0 → K = .none) := by
  cases K with
  | none => simp [KOp.rank]
  | more k =>
    simp only [KOp.rank]
    rcases h with ⟨h, _⟩ | ⟨h, _⟩ | ⟨h, _⟩ <;> rw [h] <;> simp
  | less k =>
    simp only [KOp.rank]
    rcases h with ⟨h, _⟩ | ⟨h, _⟩ | ⟨h, _⟩ <;> rw [h] <;> simp
theorem mOk {k : BlkS} (h : Inv E cl σ.g xs) (hk : KInv E cl (σ.g 5 0 0) (.more k)) : k.OkMore σ := by
  have h1 := h.n1
  have h2 := h.nE
  have h3 := h.E4
  rcases hk with ⟨e, _⟩ | ⟨e, e2, e3, _⟩ | ⟨e, e2, e3, _⟩
  · exact .inr (.inl ⟨e, by omega, by omega⟩)
  · exact .inr (.inr (.inl ⟨e, by omega, by omega⟩))
  · exact .inr (.inr (.inr ⟨e, by omega, by omega⟩))
theorem lOk {k : BlkS} (h : Inv E cl σ.g xs) (hk : KInv E cl (σ.g 5 0 0) (.less k)) : k.OkLess σ := by
  have h1 := h.n1
  have h2 := h.nE
  have h3 := h.E4
  rcases hk with ⟨e, _⟩ | ⟨e, e2, e3, _⟩ | ⟨e, e2, e3, _⟩
  · exact .inr (.inl ⟨e, by omega, by omega⟩)
  · exact .inr (.inr (.inl ⟨e, by omega, by omega⟩))
  · exact .inr (.inr (.inr ⟨e, by omega, by omega⟩))

/-- What a keeper's step leaves. -/
def Kept (E : Int) (g' : Int → Int → Int → Int) (xs : List Act) (K' : KOp) (r : Nat) : Prop :=
  ∃ cl', Inv (max E (g' 5 0 0)) cl' g' xs ∧ KInv (max E (g' 5 0 0)) cl' (g' 5 0 0) K' ∧ K'.rank ≤ r - 1

theorem max_eq_left' {a b : Int} (h : b ≤ a) : max a b = a := by omega

theorem Inv.more {k : BlkS} (h : Inv E cl σ.g xs) (hk : KInv E cl (σ.g 5 0 0) (.more k)) : Kept E (k.more σ).2.g xs (KOp.mored (k.more σ).1) (KOp.rank (.more k)) := by
  have h1 := h.n1
  have h2 := h.nE
  have h3 := h.E4
  obtain ⟨line, blocks, e⟩ := k
  rcases hk with ⟨e1, hp⟩ | ⟨e1, e2, e3, hp⟩ | ⟨e1, e2, e3, hp⟩
  all_goals
    simp only at e1
    subst e1
  · by_cases hx : 4 ≤ σ.g 5 0 0
    · have es : (⟨1, blocks, e⟩ : BlkS).more σ = (⟨0, σ.g 5 0 0, 5⟩, σ.load 5 0 0) := by simp [BlkS.more, hx]
      rw [es]
      refine ⟨cl, ?_⟩
      simp only [MS.load]
      rw [max_eq_left' h2]
      exact ⟨h, hp, by simp [KOp.mored, KOp.rank]⟩
    · have es : (⟨1, blocks, e⟩ : BlkS).more σ = (⟨2, σ.g 5 0 0, e⟩, σ.load 5 0 0) := by simp [BlkS.more, hx]
      rw [es]
      refine ⟨cl, ?_⟩
      simp only [MS.load]
      rw [max_eq_left' h2]
      exact ⟨h, .inr (.inl ⟨rfl, rfl, by omega, hp⟩), by simp [KOp.mored, KOp.rank]⟩
  · simp only at e2
    subst e2
    have hcas : (σ.g 5 0 0 == σ.g 5 0 0) = true := by simp
    have es : (⟨2, σ.g 5 0 0, e⟩ : BlkS).more σ = (⟨3, σ.g 5 0 0, e⟩, σ.cas 5 0 0 (σ.g 5 0 0) (σ.g 5 0 0 + 1)) := by simp [BlkS.more]
    rw [es]
    have hg' := fun a b c => cas_g (n := σ.g 5 0 0 + 1) (show mayA 5 0 0 = true by decide) hcas a b c
    refine ⟨cl, ?_⟩
    simp only
    have h5 : (σ.cas 5 0 0 (σ.g 5 0 0) (σ.g 5 0 0 + 1)).g 5 0 0 = σ.g 5 0 0 + 1 := by rw [hg', if_pos ⟨rfl, rfl, rfl⟩]
    rw [h5]
    refine ⟨h.kept (by omega) (by omega) (by rw [h5]; omega) (by rw [h5]; omega) (fun b b0 b4 => by rw [hg', if_neg (by omega)]; exact h.word b b0 b4) h.shut (fun t f => by rw [hg', if_neg (by omega)]), .inr (.inr ⟨rfl, by simp only; omega, by omega, fun b b0 b4 hb => ?_⟩), by simp [KOp.mored, KOp.rank]⟩
    rw [hp b b0 b4, decide_eq_decide]
    omega
  · simp only at e2
    subst e2
    have hmay : mayA 7 (σ.g 5 0 0 - 1) 0 = true := may7 (by omega) (by omega)
    have es : (⟨3, σ.g 5 0 0 - 1, e⟩ : BlkS).more σ = (⟨0, σ.g 5 0 0 - 1, 0⟩, σ.cas 7 (σ.g 5 0 0 - 1) 0 (blockW 0 true) (blockW 0 false)) := by simp [BlkS.more]
    rw [es]
    have hw := h.word (σ.g 5 0 0 - 1) (by omega) (by omega)
    have hs := h.shut (σ.g 5 0 0 - 1) (by omega) (by omega)
    have hcn := cnt_le xs (σ.g 5 0 0 - 1)
    have h8 := h.len
    simp only
    cases hcas : (σ.g 7 (σ.g 5 0 0 - 1) 0 == blockW 0 true)
    · have hc : cl (σ.g 5 0 0 - 1) = false := by
        cases hc : cl (σ.g 5 0 0 - 1)
        · rfl
        · rw [hc, hs hc] at hw
          rw [hw] at hcas
          simp at hcas
      refine ⟨cl, ?_⟩
      rw [cas_no hcas, max_eq_left' h2]
      refine ⟨h, fun b b0 b4 => ?_, by simp [KOp.mored, KOp.rank]⟩
      by_cases eb : b = σ.g 5 0 0 - 1
      · rw [eb, hc]
        symm
        rw [decide_eq_false_iff_not]
        omega
      · exact hp b b0 b4 eb
    · have hg' := fun a b c => cas_g (n := blockW 0 false) hmay hcas a b c
      have h5 : (σ.cas 7 (σ.g 5 0 0 - 1) 0 (blockW 0 true) (blockW 0 false)).g 5 0 0 = σ.g 5 0 0 := by rw [hg', if_neg (by omega)]
      have hcl : cnt xs (σ.g 5 0 0 - 1) = 0 := by
        rw [beq_iff_eq, hw] at hcas
        have := congrArg blkN hcas
        rw [blkN_blockW (by omega) (by omega), blkN_blockW (by omega) (by omega)] at this
        omega
      refine ⟨fun b => if b = σ.g 5 0 0 - 1 then false else cl b, ?_⟩
      rw [h5, max_eq_left' h2]
      refine ⟨h.kept (by omega) h3 (by rw [h5]; omega) (by rw [h5]; omega) (fun b b0 b4 => ?_) (fun b b0 b4 hc => ?_) (fun t f => by rw [hg', if_neg (by omega)]), fun b b0 b4 => ?_, by simp [KOp.mored, KOp.rank]⟩
      · rw [hg']
        by_cases eb : b = σ.g 5 0 0 - 1
        · rw [if_pos ⟨rfl, eb, rfl⟩, if_pos eb, eb, hcl]
          rfl
        · rw [if_neg (by omega), if_neg eb]
          exact h.word b b0 b4
      · split at hc
        · cases hc
        · exact h.shut b b0 b4 hc
      · show (if b = σ.g 5 0 0 - 1 then _ else _) = _
        by_cases eb : b = σ.g 5 0 0 - 1
        · rw [if_pos eb]
          symm
          rw [decide_eq_false_iff_not]
          omega
        · rw [if_neg eb]
          exact hp b b0 b4 eb

theorem Inv.less {k : BlkS} (h : Inv E cl σ.g xs) (hk : KInv E cl (σ.g 5 0 0) (.less k)) : Kept E (k.less σ).2.g xs (KOp.lessed (k.less σ).1) (KOp.rank (.less k)) := by
  have h1 := h.n1
  have h2 := h.nE
  have h3 := h.E4
  obtain ⟨line, blocks, e⟩ := k
  rcases hk with ⟨e1, hp⟩ | ⟨e1, e2, e3, hp⟩ | ⟨e1, e2, e3, hp⟩
  all_goals
    simp only at e1
    subst e1
  · by_cases hx : σ.g 5 0 0 ≤ 1
    · have es : (⟨1, blocks, e⟩ : BlkS).less σ = (⟨0, σ.g 5 0 0, 4⟩, σ.load 5 0 0) := by simp [BlkS.less, hx]
      rw [es]
      refine ⟨cl, ?_⟩
      simp only [MS.load]
      rw [max_eq_left' h2]
      exact ⟨h, hp, by simp [KOp.lessed, KOp.rank]⟩
    · have es : (⟨1, blocks, e⟩ : BlkS).less σ = (⟨2, σ.g 5 0 0, e⟩, σ.load 5 0 0) := by simp [BlkS.less, hx]
      rw [es]
      refine ⟨cl, ?_⟩
      simp only [MS.load]
      rw [max_eq_left' h2]
      exact ⟨h, .inr (.inl ⟨rfl, rfl, by omega, hp⟩), by simp [KOp.lessed, KOp.rank]⟩
  · simp only at e2
    subst e2
    have hmay : mayA 7 (σ.g 5 0 0 - 1) 0 = true := may7 (by omega) (by omega)
    have hw := h.word (σ.g 5 0 0 - 1) (by omega) (by omega)
    have hcn := cnt_le xs (σ.g 5 0 0 - 1)
    have h8 := h.len
    cases hcas : (σ.g 7 (σ.g 5 0 0 - 1) 0 == blockW 0 false)
    · have es : (⟨2, σ.g 5 0 0, e⟩ : BlkS).less σ = (⟨0, σ.g 5 0 0, 7⟩, σ.cas 7 (σ.g 5 0 0 - 1) 0 (blockW 0 false) (blockW 0 true)) := by simp [BlkS.less, hcas]
      rw [es]
      refine ⟨cl, ?_⟩
      simp only
      rw [cas_no hcas, max_eq_left' h2]
      exact ⟨h, hp, by simp [KOp.lessed, KOp.rank]⟩
    · have es : (⟨2, σ.g 5 0 0, e⟩ : BlkS).less σ = (⟨3, σ.g 5 0 0, e⟩, σ.cas 7 (σ.g 5 0 0 - 1) 0 (blockW 0 false) (blockW 0 true)) := by simp [BlkS.less, hcas]
      rw [es]
      have hg' := fun a b c => cas_g (n := blockW 0 true) hmay hcas a b c
      have h5 : (σ.cas 7 (σ.g 5 0 0 - 1) 0 (blockW 0 false) (blockW 0 true)).g 5 0 0 = σ.g 5 0 0 := by rw [hg', if_neg (by omega)]
      have hcl : cnt xs (σ.g 5 0 0 - 1) = 0 := by
        rw [beq_iff_eq, hw] at hcas
        have := congrArg blkN hcas
        rw [blkN_blockW (by omega) (by omega), blkN_blockW (by omega) (by omega)] at this
        omega
      refine ⟨fun b => if b = σ.g 5 0 0 - 1 then true else cl b, ?_⟩
      simp only
      rw [h5, max_eq_left' h2]
      refine ⟨h.kept (by omega) h3 (by rw [h5]; omega) (by rw [h5]; omega) (fun b b0 b4 => ?_) (fun b b0 b4 hc => ?_) (fun t f => by rw [hg', if_neg (by omega)]), .inr (.inr ⟨rfl, rfl, e3, fun b b0 b4 => ?_⟩), by simp [KOp.lessed, KOp.rank]⟩
      · rw [hg']
        by_cases eb : b = σ.g 5 0 0 - 1
        · rw [if_pos ⟨rfl, eb, rfl⟩, if_pos eb, eb, hcl]
          rfl
        · rw [if_neg (by omega), if_neg eb]
          exact h.word b b0 b4
      · split at hc
        · rename_i eb
          rw [eb]
          exact hcl
        · exact h.shut b b0 b4 hc
      · show (if b = σ.g 5 0 0 - 1 then _ else _) = _
        by_cases eb : b = σ.g 5 0 0 - 1
        · rw [if_pos eb]
          symm
          rw [decide_eq_true_eq]
          omega
        · rw [if_neg eb, hp b b0 b4, decide_eq_decide]
          omega
  · simp only at e2
    subst e2
    have hcas : (σ.g 5 0 0 == σ.g 5 0 0) = true := by simp
    have es : (⟨3, σ.g 5 0 0, e⟩ : BlkS).less σ = (⟨0, σ.g 5 0 0, 0⟩, σ.cas 5 0 0 (σ.g 5 0 0) (σ.g 5 0 0 - 1)) := by simp [BlkS.less]
    rw [es]
    have hg' := fun a b c => cas_g (n := σ.g 5 0 0 - 1) (show mayA 5 0 0 = true by decide) hcas a b c
    have h5 : (σ.cas 5 0 0 (σ.g 5 0 0) (σ.g 5 0 0 - 1)).g 5 0 0 = σ.g 5 0 0 - 1 := by rw [hg', if_pos ⟨rfl, rfl, rfl⟩]
    refine ⟨cl, ?_⟩
    simp only
    rw [h5, max_eq_left' (by omega)]
    exact ⟨h.kept (by omega) h3 (by rw [h5]; omega) (by rw [h5]; omega) (fun b b0 b4 => by rw [hg', if_neg (by omega)]; exact h.word b b0 b4) h.shut (fun t f => by rw [hg', if_neg (by omega)]), hp, by simp [KOp.lessed, KOp.rank]⟩

end
end Go.Proofs.YtghkdkdlbkmicaaDoor.law11
