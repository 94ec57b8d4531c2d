/- Threads that join and leave, while blocks come and go: an actor's step, a keeper's step. -/
import Derived.Test.YtghkdkdlbkmicaaDoorActors
namespace Go.Proofs.YtghkdkdlbkmicaaDoor.law11
open Go.RowKit

theorem Inv.begun {E : Int} {cl : Int → Bool} {g : Int → Int → Int → Int} {xs : List Act} (h : Inv E cl g xs) (i : Nat) (hi : i < xs.length) : Inv E cl g (xs.set i (xs[i].begun i)) := by
  have hg := h.good i hi
  have h8 := h.len
  have hE := h.E4
  generalize hx : xs[i] = x at hg
  obtain ⟨t, o⟩ := x
  cases o with
  | none =>
    simp only [Good] at hg
    by_cases ht : t < 0
    · have e : (⟨t, .none⟩ : Act).begun i = ⟨t, .join (JoinS.new i)⟩ := by simp [Act.begun, ht]
      rw [e]
      refine h.still i hi _ ⟨by show t = -1; omega, rfl, .inl ⟨rfl, rfl⟩⟩ (fun _ _ _ _ => rfl) ?_ ?_
      · rw [hx]
        show (-1 : Int) = if 0 ≤ t then t / 4 else -1
        rw [if_neg (by omega)]
      · rw [hx]
        show (-1 : Int) = t
        omega
    · have e : (⟨t, .none⟩ : Act).begun i = ⟨t, .leave (LeaveS.new t)⟩ := by simp [Act.begun, ht]
      rw [e]
      refine h.still i hi _ ⟨by simp only [LeaveS.new]; omega, rfl, by simp only [LeaveS.new]; omega, by simp [LeaveS.new], by simp [LeaveS.new], fun e => by simp [LeaveS.new] at e⟩ (fun _ _ _ _ => rfl) ?_ ?_
      · rw [hx]
        show t / 4 = if 0 ≤ t then t / 4 else -1
        rw [if_pos (by omega)]
      · rw [hx]
        simp [Act.own, LeaveS.new]
  | join j =>
    rw [show (⟨t, .join j⟩ : Act).begun i = xs[i] by rw [hx]; rfl]
    exact h.still i hi _ (h.good i hi) (fun _ _ _ _ => rfl) rfl rfl
  | leave l =>
    rw [show (⟨t, .leave l⟩ : Act).begun i = xs[i] by rw [hx]; rfl]
    exact h.still i hi _ (h.good i hi) (fun _ _ _ _ => rfl) rfl rfl

theorem may7 {b : Int} (b0 : 0 ≤ b) (b4 : b < 4) : mayA 7 b 0 = true := by
  simp [mayA, roomAt, roomF]
  omega
theorem may8 {t f : Int} (t0 : 0 ≤ t) (t1 : t < 16) (f0 : 0 ≤ f) (f1 : f < 10) : mayA 8 t f = true := by
  simp [mayA, roomAt, roomF]
  omega
theorem cas_g {σ : MS} {k a f o n : Int} (hm : mayA k a f = true) (hc : (σ.g k a f == o) = true) (k' a' f' : Int) : (σ.cas k a f o n).g k' a' f' = if k' = k ∧ a' = a ∧ f' = f then n else σ.g k' a' f' := by
  unfold MS.cas
  rw [if_pos ⟨hc, hm⟩]
  rfl
theorem cas_no {σ : MS} {k a f o n : Int} (hc : (σ.g k a f == o) = false) : (σ.cas k a f o n).g = σ.g := by
  unfold MS.cas
  rw [if_neg (by rw [hc]; simp)]
theorem store_g {σ : MS} {k a f n : Int} (hm : mayA k a f = true) (k' a' f' : Int) : (σ.store k a f n).g k' a' f' = if k' = k ∧ a' = a ∧ f' = f then n else σ.g k' a' f' := by
  unfold MS.store
  rw [if_pos hm]
  rfl

section
variable {E : Int} {cl : Int → Bool} {σ : MS} {xs : List Act}

/-- A block's count turns by the actor's own CAS. -/
theorem Inv.count (h : Inv E cl σ.g xs) (i : Nat) (hi : i < xs.length) (x' : Act) (hx : Good i E x') {g' : Int → Int → Int → Int} {b : Int} (_b0 : 0 ≤ b) (_b4 : b < 4) (ho : x'.own = xs[i].own)
    (hb : (xs[i].block = -1 ∧ x'.block = b) ∨ (xs[i].block = b ∧ x'.block = -1)) (hc : cl b = false) (hg : ∀ a c d, g' a c d = if a = 7 ∧ c = b ∧ d = 0 then blockW (cnt (xs.set i x') b) false else σ.g a c d) : Inv E cl g' (xs.set i x') := by
  have hset := fun c => cnt_set xs i hi x' c
  refine h.next i hi x' hx (by rw [hg, if_neg (by omega)]) (fun c c0 c4 => ?_) (fun c c0 c4 hcc => ?_) (fun t t0 t1 => ?_) (fun h0 => ?_) (fun t _ ht h0 => ⟨by rw [hg, if_neg (by omega)], by rw [← ho]; exact ht⟩) (fun t _ _ _ => by rw [hg, if_neg (by omega)]) (fun _ e => absurd ho e)
  · rw [hg]
    by_cases e : c = b
    · rw [if_pos ⟨rfl, e, rfl⟩, e, hc]
    · rw [if_neg (by omega), h.word c c0 c4, hset c, if_neg (by omega), if_neg (by omega)]
      simp
  · have hcb : c ≠ b := fun e => by
      rw [e, hc] at hcc
      cases hcc
    rw [hset c, if_neg (by omega), if_neg (by omega), h.shut c c0 c4 hcc]
  · rw [hg, if_neg (by omega)]
    exact h.zero t t0 t1
  · rw [hg, if_neg (by omega), ho]
    rw [ho] at h0
    exact h.own i hi h0

theorem jok {i : Nat} {t : Int} {j : JoinS} (h : Inv E cl σ.g xs) (hi : i < xs.length) (he : xs[i] = ⟨t, .join j⟩) : j.Ok σ := by
  have hg := h.good i hi
  rw [he] at hg
  obtain ⟨_, ho, hj⟩ := hg
  have h4 := h.E4
  have hn := h.nE
  have h8 := h.len
  rcases hj with ⟨h1, h2⟩ | ⟨h1, h2, h3, h5⟩ | ⟨h1, h2, h3, h5, h6, h7, h9, _⟩ | ⟨h1, h2, h3, h5, h6⟩ | ⟨h1, h2, h3, h5, h6, h7⟩ | ⟨h1, h2, h3⟩ | ⟨h1, h2, h3, h5, h6, h7⟩
  · exact .inr (.inl ⟨h1, by omega⟩)
  · exact .inr (.inr (.inl ⟨h1, by omega, by omega⟩))
  · exact .inr (.inr (.inr (.inl ⟨h1, h6, h7, h9, may7 (by omega) (by omega)⟩)))
  · exact .inr (.inr (.inr (.inr (.inl ⟨h1, by omega, by omega, by omega, by omega, by omega, by omega⟩))))
  · exact .inr (.inr (.inr (.inr (.inr (.inl ⟨h1, by omega, by omega, by omega, by omega⟩)))))
  · exact .inr (.inr (.inr (.inr (.inr (.inr (.inl h1))))))
  · exact .inr (.inr (.inr (.inr (.inr (.inr (.inr ⟨h1, h5, h6, h7, may7 (by omega) (by omega)⟩))))))
theorem lok {i : Nat} {t : Int} {l : LeaveS} (h : Inv E cl σ.g xs) (hi : i < xs.length) (he : xs[i] = ⟨t, .leave l⟩) : l.Ok := by
  have hg := h.good i hi
  rw [he] at hg
  obtain ⟨h1, h2, h3, h5, h6, h7⟩ := hg
  have h4 := h.E4
  refine ⟨by omega, ?_⟩
  by_cases e : l.line = 6
  · have := h7 e
    exact .inr (.inr (.inr (.inr (.inr (.inr ⟨e, this.1, this.2.1, this.2.2, may7 (by omega) (by omega)⟩)))))
  · omega

/-- A block's count is lessened by the actor's own CAS. -/
theorem Inv.lessened (h : Inv E cl σ.g xs) (_hr : ∀ k a f, 0 ≤ σ.g k a f ∧ σ.g k a f < 18446744073709551616) (i : Nat) (hi : i < xs.length) {x' : Act} (hx : Good i E x') {b word : Int} (b0 : 0 ≤ b) (b4 : b < 4) (ho : x'.own = xs[i].own)
    (hb : xs[i].block = b) (hb' : x'.block = -1) (hcas : (σ.g 7 b 0 == word) = true) (hmay : mayA 7 b 0 = true) : Inv E cl (σ.cas 7 b 0 word (blockW (blkN word - 1) (blkC word))).g (xs.set i x') := by
  have h8 := h.len
  have hcp := cnt_pos xs i hi
  rw [hb] at hcp
  have hcn := cnt_le xs b
  have hc := h.open_ hi (by omega) (by omega)
  rw [hb] at hc
  have hw := h.word b b0 b4
  have hcs := cnt_set xs i hi x' b
  rw [if_pos hb, if_neg (by omega)] at hcs
  refine h.count i hi x' hx b0 b4 ho (.inr ⟨hb, hb'⟩) hc (fun a c d => ?_)
  rw [cas_g hmay hcas]
  rw [beq_iff_eq, hw] at hcas
  rw [← hcas, blkN_blockW (by omega) (by omega), blkC_blockW (by omega) (by omega), hc, hcs]
  congr 2
  omega

/-- What a step of a Join leaves: the actor, the words, and that its thread is there. -/
def Joined (E : Int) (cl : Int → Bool) (xs : List Act) (i : Nat) (n : Int) (j' : JoinS) (g' : Int → Int → Int → Int) : Prop :=
  Inv E cl g' (xs.set i (Act.joined (-1) j')) ∧ g' 5 0 0 = n ∧ j'.owner = i + 1 ∧ (j'.line = 0 → j'.e = 0 → 0 ≤ j'.thread ∧ j'.thread < E * 4 ∧ cl (j'.thread / 4) = false)

theorem Inv.join (h : Inv E cl σ.g xs) (hr : ∀ k a f, 0 ≤ σ.g k a f ∧ σ.g k a f < 18446744073709551616) (i : Nat) (hi : i < xs.length) {t : Int} {j : JoinS} (he : xs[i] = ⟨t, .join j⟩) :
    Joined E cl xs i (σ.g 5 0 0) (j.step σ).1 (j.step σ).2.g := by
  have hg := h.good i hi
  rw [he] at hg
  obtain ⟨ht, ho, hj⟩ := hg
  simp only at ht
  subst ht
  obtain ⟨line, block, word, e, owner, blocks, k, th⟩ := j
  simp only at ho
  have h4 := h.E4
  have hn := h.nE
  have hn1 := h.n1
  have h8 := h.len
  have hbl : xs[i].block = if 4 ≤ line then block else -1 := by rw [he]; rfl
  have hol : xs[i].own = if line = 5 then th else -1 := by rw [he]; rfl
  rcases hj with ⟨h1, h2⟩ | ⟨h1, h2, h3, h5⟩ | ⟨h1, h2, h3, h5, h6, h7, h9, h10⟩ | ⟨h1, h2, h3, h5, h6⟩ | ⟨h1, h2, h3, h5, h6, h7⟩ | ⟨h1, h2, h3⟩ | ⟨h1, h2, h3, h5, h6, h7⟩
  all_goals
    simp only at h1
    subst h1
  · -- how many blocks there are
    simp only at h2
    subst h2
    have hne : ¬ σ.g 5 0 0 = 0 := by omega
    have es : (⟨1, 0, word, e, owner, blocks, k, th⟩ : JoinS).step σ = (⟨2, 0, word, e, owner, σ.g 5 0 0, k, th⟩, σ.load 5 0 0) := by simp [JoinS.step, hne]
    rw [es]
    refine ⟨h.still i hi _ ⟨rfl, ho, .inr (.inl ⟨rfl, by simp, by simp only; omega, hn⟩)⟩ (fun _ _ _ _ => rfl) ?_ ?_, rfl, ho, fun e => by simp at e⟩
    · rw [hbl]
      rfl
    · rw [hol]
      rfl
  · -- a block is looked at
    simp only at h2 h3 h5
    have hr7 := hr 7 block 0
    by_cases hc : blkC (σ.g 7 block 0) = false ∧ blkN (σ.g 7 block 0) < 4
    · have es : (⟨2, block, word, e, owner, blocks, k, th⟩ : JoinS).step σ = (⟨3, block, σ.g 7 block 0, e, owner, blocks, k, th⟩, σ.load 7 block 0) := by simp [JoinS.step, hc]
      rw [es]
      refine ⟨h.still i hi _ ⟨rfl, ho, .inr (.inr (.inl ⟨rfl, h2, h3, h5, hr7.1, hr7.2, hc.2, hc.1⟩))⟩ (fun _ _ _ _ => rfl) ?_ ?_, rfl, ho, fun e => by simp at e⟩
      · rw [hbl]
        rfl
      · rw [hol]
        rfl
    · by_cases hbb : block + 1 = blocks
      · have es : (⟨2, block, word, e, owner, blocks, k, th⟩ : JoinS).step σ = (⟨0, block + 1, σ.g 7 block 0, 5, owner, blocks, k, th⟩, σ.load 7 block 0) := by
          simp only [JoinS.step]
          rw [if_neg (by omega), if_pos trivial, if_neg hc, if_pos hbb]
        rw [es]
        refine ⟨h.still i hi _ ?_ (fun _ _ _ _ => rfl) ?_ ?_, rfl, ho, fun _ e => by simp at e⟩
        · simp [Act.joined, Good]
        · rw [hbl]
          simp [Act.joined, Act.block]
        · rw [hol]
          simp [Act.joined, Act.own]
      · have es : (⟨2, block, word, e, owner, blocks, k, th⟩ : JoinS).step σ = (⟨2, block + 1, σ.g 7 block 0, e, owner, blocks, k, th⟩, σ.load 7 block 0) := by
          simp only [JoinS.step]
          rw [if_neg (by omega), if_pos trivial, if_neg hc, if_neg hbb]
        rw [es]
        refine ⟨h.still i hi _ ⟨rfl, ho, .inr (.inl ⟨rfl, by simp only; omega, by simp only; omega, h5⟩)⟩ (fun _ _ _ _ => rfl) ?_ ?_, rfl, ho, fun e => by simp at e⟩
        · rw [hbl]
          rfl
        · rw [hol]
          rfl
  · -- one more joins it
    simp only at h2 h3 h5 h6 h7 h9 h10
    have hmay : mayA 7 block 0 = true := may7 (by omega) (by omega)
    cases hcas : (σ.g 7 block 0 == word)
    · have es : (⟨3, block, word, e, owner, blocks, k, th⟩ : JoinS).step σ = (⟨2, block, word, e, owner, blocks, k, th⟩, σ.cas 7 block 0 word (blockW (blkN word + 1) (blkC word))) := by simp [JoinS.step, hcas]
      rw [es]
      refine ⟨h.still i hi _ ⟨rfl, ho, .inr (.inl ⟨rfl, h2, h3, h5⟩)⟩ (fun _ _ _ _ => by rw [cas_no hcas]) ?_ ?_, by simp only [cas_no hcas], ho, fun e => by simp at e⟩
      · rw [hbl]
        rfl
      · rw [hol]
        rfl
    · have es : (⟨3, block, word, e, owner, blocks, k, th⟩ : JoinS).step σ = (⟨4, block, word, e, owner, blocks, 0, th⟩, σ.cas 7 block 0 word (blockW (blkN word + 1) (blkC word))) := by simp [JoinS.step, hcas]
      rw [es]
      have hx' : Act.joined (-1) ⟨4, block, word, e, owner, blocks, 0, th⟩ = ⟨-1, .join ⟨4, block, word, e, owner, blocks, 0, th⟩⟩ := by simp [Act.joined]
      unfold Joined
      simp only
      rw [hx']
      have hw := h.word block h2 (by omega)
      have hcn := cnt_le xs block
      have hcs := cnt_set xs i hi ⟨-1, .join ⟨4, block, word, e, owner, blocks, 0, th⟩⟩ block
      rw [if_neg (by rw [hbl, if_neg (by omega)]; omega), if_pos (by simp [Act.block])] at hcs
      have hg' := fun a c d => cas_g (n := blockW (blkN word + 1) (blkC word)) hmay hcas a c d
      have hword : word = blockW (cnt xs block) (cl block) := by
        rw [beq_iff_eq] at hcas
        rw [← hcas]
        exact hw
      have hcl : cl block = false := by
        rw [hword, blkC_blockW (by omega) (by omega)] at h10
        exact h10
      have hN : blkN word = cnt xs block := by rw [hword, blkN_blockW (by omega) (by omega)]
      refine ⟨h.count i hi ⟨-1, .join ⟨4, block, word, e, owner, blocks, 0, th⟩⟩ ⟨rfl, ho, .inr (.inr (.inr (.inl ⟨rfl, h2, by simp only; omega, by simp, by simp⟩)))⟩ h2 (by omega) ?_ (.inl ⟨?_, ?_⟩) hcl (fun a c d => ?_), by rw [hg', if_neg (by omega)], ho, fun e => by simp at e⟩
      · rw [hol]
        rfl
      · rw [hbl]
        rfl
      · simp [Act.block]
      · rw [hg', hcs, hN, h10]
        simp
  · -- a thread is taken
    simp only at h2 h3 h5 h6
    have hmay : mayA 8 (block * 4 + k) 0 = true := may8 (by omega) (by omega) (by omega) (by omega)
    cases hcas : (σ.g 8 (block * 4 + k) 0 == 0)
    · by_cases hk : k + 1 = 4
      · have es : (⟨4, block, word, e, owner, blocks, k, th⟩ : JoinS).step σ = (⟨6, block, word, e, owner, blocks, k + 1, th⟩, σ.cas 8 (block * 4 + k) 0 0 owner) := by simp [JoinS.step, hcas, hk]
        rw [es]
        refine ⟨h.still i hi _ ⟨rfl, ho, .inr (.inr (.inr (.inr (.inr (.inl ⟨rfl, h2, h3⟩)))))⟩ (fun _ _ _ _ => by rw [cas_no hcas]) ?_ ?_, by simp only [cas_no hcas], ho, fun e => by simp at e⟩
        · rw [hbl]
          rfl
        · rw [hol]
          rfl
      · have es : (⟨4, block, word, e, owner, blocks, k, th⟩ : JoinS).step σ = (⟨4, block, word, e, owner, blocks, k + 1, th⟩, σ.cas 8 (block * 4 + k) 0 0 owner) := by simp [JoinS.step, hcas, hk]
        rw [es]
        refine ⟨h.still i hi _ ⟨rfl, ho, .inr (.inr (.inr (.inl ⟨rfl, h2, h3, by simp only; omega, by simp only; omega⟩)))⟩ (fun _ _ _ _ => by rw [cas_no hcas]) ?_ ?_, by simp only [cas_no hcas], ho, fun e => by simp at e⟩
        · rw [hbl]
          rfl
        · rw [hol]
          rfl
    · have es : (⟨4, block, word, e, owner, blocks, k, th⟩ : JoinS).step σ = (⟨5, block, word, e, owner, blocks, 1, block * 4 + k⟩, σ.cas 8 (block * 4 + k) 0 0 owner) := by simp [JoinS.step, hcas]
      rw [es]
      have hg' := fun a c d => cas_g (n := owner) hmay hcas a c d
      have hz : σ.g 8 (block * 4 + k) 0 = 0 := by simpa using hcas
      have hx' : Act.joined (-1) ⟨5, block, word, e, owner, blocks, 1, block * 4 + k⟩ = ⟨-1, .join ⟨5, block, word, e, owner, blocks, 1, block * 4 + k⟩⟩ := by simp [Act.joined]
      unfold Joined
      simp only
      rw [hx']
      have hbk : (⟨-1, .join ⟨5, block, word, e, owner, blocks, 1, block * 4 + k⟩⟩ : Act).block = xs[i].block := by
        rw [hbl]
        rfl
      have hok : (⟨-1, .join ⟨5, block, word, e, owner, blocks, 1, block * 4 + k⟩⟩ : Act).own = block * 4 + k := rfl
      rw [if_neg (by omega)] at hol
      refine ⟨h.next i hi ⟨-1, .join ⟨5, block, word, e, owner, blocks, 1, block * 4 + k⟩⟩ ⟨rfl, ho, .inr (.inr (.inr (.inr (.inl ⟨rfl, h2, h3, by simp only; omega, by simp, by simp⟩))))⟩ (by rw [hg', if_neg (by omega)]) (fun b b0 b4 => ?_) (fun b b0 b4 hcc => ?_) (fun t t0 t1 => ?_) (fun h0 => ?_) (fun t t0 ht h0 => ?_) (fun t t0 ht _ => ?_) (fun _ _ => ?_), by rw [hg', if_neg (by omega)], ho, fun e => by simp at e⟩
      · rw [cnt_same xs i hi _ hbk]
        simp only [hg']
        rw [if_neg (by omega)]
        exact h.word b b0 b4
      · rw [cnt_same xs i hi _ hbk]
        exact h.shut b b0 b4 hcc
      · simp only [hg']
        rw [if_neg (by omega)]
        exact h.zero t t0 t1
      · rw [hok]
        simp only [hg']
        rw [if_pos ⟨trivial, trivial, trivial⟩]
        exact ho
      · rw [hok] at ht
        simp only [hg']
        rw [if_neg (by omega)]
        exact ⟨rfl, by rw [hol]; omega⟩
      · rw [hok] at ht
        simp only [hg']
        rw [if_neg (by omega)]
      · rw [hok]
        exact hz
  · -- its words are cleared
    simp only at h2 h3 h5 h6 h7
    have hmay : mayA 8 th k = true := may8 (by omega) (by omega) (by omega) (by omega)
    rw [if_pos (by omega)] at hbl
    rw [if_pos rfl] at hol
    have hst : ∀ x' : Act, Good i E x' → x'.block = block → x'.own = th → Inv E cl (σ.store 8 th k 0).g (xs.set i x') := fun x' hx hb' ho' => by
      have hg' := fun a c d => store_g (σ := σ) (n := 0) hmay a c d
      refine h.next i hi x' hx (by rw [hg', if_neg (by omega)]) (fun b b0 b4 => ?_) (fun b b0 b4 hcc => ?_) (fun t t0 t1 => ?_) (fun h0 => ?_) (fun t t0 ht h0 => ?_) (fun t t0 ht _ => ?_) (fun _ hne => ?_)
      · rw [cnt_same xs i hi _ (by rw [hb', hbl]), hg', if_neg (by omega)]
        exact h.word b b0 b4
      · rw [cnt_same xs i hi _ (by rw [hb', hbl])]
        exact h.shut b b0 b4 hcc
      · rw [hg']
        split
        · rfl
        · exact h.zero t t0 t1
      · rw [hg', if_neg (by omega), ho', ← hol]
        exact h.own i hi (by omega)
      · rw [hg', if_neg (by omega)]
        exact ⟨rfl, by omega⟩
      · rw [hg', if_neg (by omega)]
      · exact absurd (ho'.trans hol.symm) hne
    have hcl : cl (th / 4) = false := by
      have := h.open_ hi (by omega) (by omega)
      rw [hbl, ← h5] at this
      exact this
    by_cases hk : k + 1 = 10
    · have es : (⟨5, block, word, e, owner, blocks, k, th⟩ : JoinS).step σ = (⟨0, block, word, 0, owner, blocks, k + 1, th⟩, σ.store 8 th k 0) := by simp [JoinS.step, hk]
      rw [es]
      refine ⟨hst _ ?_ ?_ ?_, by simp only; rw [store_g hmay, if_neg (by omega)], ho, fun _ _ => ⟨by simp only; omega, by simp only; omega, hcl⟩⟩
      · simp only [Act.joined, Good]
        simp
        omega
      · simp only [Act.joined, Act.block]
        simp
        omega
      · simp [Act.joined, Act.own]
    · have es : (⟨5, block, word, e, owner, blocks, k, th⟩ : JoinS).step σ = (⟨5, block, word, e, owner, blocks, k + 1, th⟩, σ.store 8 th k 0) := by simp [JoinS.step, hk]
      rw [es]
      refine ⟨hst (Act.joined (-1) ⟨5, block, word, e, owner, blocks, k + 1, th⟩) ⟨rfl, ho, .inr (.inr (.inr (.inr (.inl ⟨rfl, h2, h3, h5, by simp only; omega, by simp only; omega⟩))))⟩ rfl rfl, by simp only; rw [store_g hmay, if_neg (by omega)], ho, fun e => by simp at e⟩
  · -- it was none's: back
    simp only at h2 h3
    have es : (⟨6, block, word, e, owner, blocks, k, th⟩ : JoinS).step σ = (⟨7, block, σ.g 7 block 0, e, owner, blocks, k, th⟩, σ.load 7 block 0) := by simp [JoinS.step]
    rw [es]
    rw [if_pos (by omega)] at hbl
    have hcp := cnt_pos xs i hi
    rw [hbl] at hcp
    have hcn := cnt_le xs block
    have hr7 := hr 7 block 0
    refine ⟨h.still i hi _ ⟨rfl, ho, .inr (.inr (.inr (.inr (.inr (.inr ⟨rfl, h2, h3, hr7.1, hr7.2, ?_⟩)))))⟩ (fun _ _ _ _ => rfl) ?_ ?_, rfl, ho, fun e => by simp at e⟩
    · simp only
      rw [h.word block h2 (by omega), blkN_blockW (by omega) (by omega)]
      omega
    · rw [hbl]
      rfl
    · rw [hol]
      rfl
  · -- one less
    simp only at h2 h3 h5 h6 h7
    have hmay : mayA 7 block 0 = true := may7 (by omega) (by omega)
    rw [if_pos (by omega)] at hbl
    rw [if_neg (by omega)] at hol
    cases hcas : (σ.g 7 block 0 == word)
    · have es : (⟨7, block, word, e, owner, blocks, k, th⟩ : JoinS).step σ = (⟨6, block, word, e, owner, blocks, k, th⟩, σ.cas 7 block 0 word (blockW (blkN word - 1) (blkC word))) := by simp [JoinS.step, hcas]
      rw [es]
      refine ⟨h.still i hi _ ⟨rfl, ho, .inr (.inr (.inr (.inr (.inr (.inl ⟨rfl, h2, h3⟩)))))⟩ (fun _ _ _ _ => by rw [cas_no hcas]) ?_ ?_, by simp only [cas_no hcas], ho, fun e => by simp at e⟩
      · rw [hbl]
        rfl
      · rw [hol]
        rfl
    · have es : (⟨7, block, word, e, owner, blocks, k, th⟩ : JoinS).step σ = (⟨0, block, word, 7, owner, blocks, k, th⟩, σ.cas 7 block 0 word (blockW (blkN word - 1) (blkC word))) := by simp [JoinS.step, hcas]
      rw [es]
      have hx' : Act.joined (-1) ⟨0, block, word, 7, owner, blocks, k, th⟩ = ⟨-1, .none⟩ := by simp [Act.joined]
      unfold Joined
      simp only
      rw [hx']
      exact ⟨h.lessened hr i hi (by simp [Good]) h2 (by omega) (by rw [hol]; rfl) hbl (by simp [Act.block]) hcas hmay, by rw [cas_g hmay hcas, if_neg (by omega)], ho, fun _ e => by simp at e⟩

end
end Go.Proofs.YtghkdkdlbkmicaaDoor.law11
