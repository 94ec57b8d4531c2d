/- Threads that join and leave, while blocks come and go: the plain law behind BlocksTable. -/
import Derived.Test.YtghkdkdlbkmicaaDoorJoins
import Derived.Test.YtghkdkdlbkmicaaDoorLeaveSteps
import Derived.Test.YtghkdkdlbkmicaaDoorBlocks
namespace Go.Proofs.YtghkdkdlbkmicaaDoor.law11
open Go.RowKit

/-- What is under way. -/
inductive AOp where
  | none
  | join (j : JoinS)
  | leave (l : LeaveS)
/-- An actor: the thread that it joined (below 0: none), and what is under way. -/
structure Act where
  thread : Int
  op : AOp

def Act.begun (x : Act) (who : Int) : Act :=
  match x.op with
  | .none => if x.thread < 0 then ⟨x.thread, .join (JoinS.new who)⟩ else ⟨x.thread, .leave (LeaveS.new x.thread)⟩
  | _ => x
def Act.joined (th : Int) (j : JoinS) : Act := if j.line = 0 then ⟨if j.e = 0 then j.thread else th, .none⟩ else ⟨th, .join j⟩
def Act.left (th : Int) (l : LeaveS) : Act := if l.line = 0 then ⟨-1, .none⟩ else ⟨th, .leave l⟩

/-- The block that counts it; the thread that has its name. Below 0: none. -/
def Act.block (x : Act) : Int :=
  match x.op with
  | .none => if 0 ≤ x.thread then x.thread / 4 else -1
  | .join j => if 4 ≤ j.line then j.block else -1
  | .leave l => l.block
def Act.own (x : Act) : Int :=
  match x.op with
  | .none => x.thread
  | .join j => if j.line = 5 then j.thread else -1
  | .leave l => if l.line ≤ 4 then l.thread else -1

/-- What a Join under way is at. -/
def JGood (E : Int) (j : JoinS) : Prop :=
  (j.line = 1 ∧ j.block = 0) ∨
  (j.line = 2 ∧ 0 ≤ j.block ∧ j.block < j.blocks ∧ j.blocks ≤ E) ∨
  (j.line = 3 ∧ 0 ≤ j.block ∧ j.block < j.blocks ∧ j.blocks ≤ E ∧ 0 ≤ j.word ∧ j.word < 18446744073709551616 ∧ blkN j.word < 4 ∧ blkC j.word = false) ∨
  (j.line = 4 ∧ 0 ≤ j.block ∧ j.block < E ∧ 0 ≤ j.k ∧ j.k < 4) ∨
  (j.line = 5 ∧ 0 ≤ j.block ∧ j.block < E ∧ j.thread / 4 = j.block ∧ 1 ≤ j.k ∧ j.k < 10) ∨
  (j.line = 6 ∧ 0 ≤ j.block ∧ j.block < E) ∨
  (j.line = 7 ∧ 0 ≤ j.block ∧ j.block < E ∧ 0 ≤ j.word ∧ j.word < 18446744073709551616 ∧ 1 ≤ blkN j.word)
def LGood (E : Int) (l : LeaveS) : Prop :=
  0 ≤ l.thread ∧ l.block = l.thread / 4 ∧ l.block < E ∧ 1 ≤ l.line ∧ l.line ≤ 6 ∧ (l.line = 6 → 0 ≤ l.word ∧ l.word < 18446744073709551616 ∧ 1 ≤ blkN l.word)
def Good (i : Nat) (E : Int) (x : Act) : Prop :=
  match x.op with
  | .none => x.thread = -1 ∨ (0 ≤ x.thread ∧ x.thread < 4 * E)
  | .join j => x.thread = -1 ∧ j.owner = i + 1 ∧ JGood E j
  | .leave l => LGood E l

theorem JGood.mono {E E' : Int} {j : JoinS} (h : JGood E j) (hE : E ≤ E') : JGood E' j := by
  rcases h with h | ⟨h1, h2, h3, h4⟩ | ⟨h1, h2, h3, h4, h5⟩ | ⟨h1, h2, h3, h4⟩ | ⟨h1, h2, h3, h4⟩ | ⟨h1, h2, h3⟩ | ⟨h1, h2, h3, h4⟩
  · exact .inl h
  · exact .inr (.inl ⟨h1, h2, h3, by omega⟩)
  · exact .inr (.inr (.inl ⟨h1, h2, h3, by omega, h5⟩))
  · exact .inr (.inr (.inr (.inl ⟨h1, h2, by omega, h4⟩)))
  · exact .inr (.inr (.inr (.inr (.inl ⟨h1, h2, by omega, h4⟩))))
  · exact .inr (.inr (.inr (.inr (.inr (.inl ⟨h1, h2, by omega⟩)))))
  · exact .inr (.inr (.inr (.inr (.inr (.inr ⟨h1, h2, by omega, h4⟩)))))
theorem Good.mono {i : Nat} {E E' : Int} {x : Act} (h : Good i E x) (hE : E ≤ E') : Good i E' x := by
  obtain ⟨t, o⟩ := x
  cases o with
  | none =>
    simp only [Good] at *
    omega
  | join j => exact ⟨h.1, h.2.1, h.2.2.mono hE⟩
  | leave l =>
    simp only [Good, LGood] at *
    exact ⟨h.1, h.2.1, by omega, h.2.2.2⟩

/-- How many a block counts. -/
def cnt (xs : List Act) (b : Int) : Nat := xs.countP (fun x => x.block == b)
theorem cnt_le (xs : List Act) (b : Int) : cnt xs b ≤ xs.length := List.countP_le_length
theorem cnt_set (xs : List Act) (i : Nat) (hi : i < xs.length) (x : Act) (b : Int) :
    cnt (xs.set i x) b = cnt xs b - (if xs[i].block = b then 1 else 0) + (if x.block = b then 1 else 0) := by
  unfold cnt
  rw [List.countP_set hi]
  simp only [beq_iff_eq]
theorem cnt_pos (xs : List Act) (i : Nat) (hi : i < xs.length) : 1 ≤ cnt xs xs[i].block := by
  unfold cnt
  exact List.countP_pos_iff.2 ⟨xs[i], List.getElem_mem _, by simp⟩
theorem cnt_same (xs : List Act) (i : Nat) (hi : i < xs.length) (x : Act) (h : x.block = xs[i].block) (b : Int) : cnt (xs.set i x) b = cnt xs b := by
  rw [cnt_set xs i hi, h]
  split
  · rename_i e
    have := cnt_pos xs i hi
    rw [e] at this
    omega
  · rfl

/-- What holds of the actors and the table; cl says which blocks are closed; E blocks there ever were. -/
structure Inv (E : Int) (cl : Int → Bool) (g : Int → Int → Int → Int) (xs : List Act) : Prop where
  len : xs.length ≤ 8
  n1 : 1 ≤ g 5 0 0
  nE : g 5 0 0 ≤ E
  E4 : E ≤ 4
  word : ∀ b, 0 ≤ b → b < 4 → g 7 b 0 = blockW (cnt xs b) (cl b)
  shut : ∀ b, 0 ≤ b → b < 4 → cl b = true → cnt xs b = 0
  zero : ∀ t, 0 ≤ t → t < 16 → g 8 t 1 = 0
  own : ∀ i (h : i < xs.length), 0 ≤ xs[i].own → g 8 xs[i].own 0 = i + 1
  owned : ∀ t, 0 ≤ t → t < 16 → g 8 t 0 ≠ 0 → ∃ i, ∃ h : i < xs.length, xs[i].own = t
  good : ∀ i (h : i < xs.length), Good i E xs[i]

theorem Inv.next {E : Int} {cl : Int → Bool} {g g' : Int → Int → Int → Int} {xs : List Act} (h : Inv E cl g xs) (i : Nat) (hi : i < xs.length) (x' : Act) (hx : Good i E x')
    (h5 : g' 5 0 0 = g 5 0 0) (hw : ∀ b, 0 ≤ b → b < 4 → g' 7 b 0 = blockW (cnt (xs.set i x') b) (cl b)) (hs : ∀ b, 0 ≤ b → b < 4 → cl b = true → cnt (xs.set i x') b = 0)
    (hz : ∀ t, 0 ≤ t → t < 16 → g' 8 t 1 = 0) (ho : 0 ≤ x'.own → g' 8 x'.own 0 = i + 1)
    (hn : ∀ t, 0 ≤ t → t ≠ x'.own → g' 8 t 0 ≠ 0 → g' 8 t 0 = g 8 t 0 ∧ t ≠ xs[i].own)
    (hf : ∀ t, 0 ≤ t → t ≠ x'.own → t ≠ xs[i].own → g' 8 t 0 = g 8 t 0) (hown : 0 ≤ x'.own → x'.own ≠ xs[i].own → g 8 x'.own 0 = 0) : Inv E cl g' (xs.set i x') := by
  refine ⟨by simpa using h.len, by rw [h5]; exact h.n1, by rw [h5]; exact h.nE, h.E4, hw, hs, hz, fun k hk hk0 => ?_, fun t t0 t1 ht => ?_, fun k hk => ?_⟩
  · simp only [List.length_set] at hk
    by_cases e : k = i
    · subst e
      rw [List.getElem_set_self] at hk0 ⊢
      exact ho hk0
    · rw [List.getElem_set_ne (Ne.symm e)] at hk0 ⊢
      have hk2 := h.own k hk hk0
      by_cases e2 : xs[k].own = xs[i].own
      · have := h.own i hi (by omega)
        rw [← e2, hk2] at this
        omega
      · by_cases e3 : xs[k].own = x'.own
        · have := hown (by omega) (by omega)
          rw [← e3, hk2] at this
          omega
        · rw [hf _ hk0 e3 e2]
          exact hk2
  · by_cases e : t = x'.own
    · exact ⟨i, by simpa using hi, by rw [List.getElem_set_self]; exact e.symm⟩
    · obtain ⟨e1, e2⟩ := hn t t0 e ht
      obtain ⟨k, hk, hko⟩ := h.owned t t0 t1 (by rw [← e1]; exact ht)
      have hki : k ≠ i := fun e3 => by
        subst e3
        exact e2 hko.symm
      exact ⟨k, by simpa using hk, by rw [List.getElem_set_ne (Ne.symm hki)]; exact hko⟩
  · simp only [List.length_set] at hk
    by_cases e : k = i
    · subst e
      rw [List.getElem_set_self]
      exact hx
    · rw [List.getElem_set_ne (Ne.symm e)]
      exact h.good k hk

/-- The words that count are as they were; so is the actor's block, and its thread. -/
theorem Inv.still {E : Int} {cl : Int → Bool} {g g' : Int → Int → Int → Int} {xs : List Act} (h : Inv E cl g xs) (i : Nat) (hi : i < xs.length) (x' : Act) (hx : Good i E x')
    (hg : ∀ a b c, (a = 8 → c ≤ 1) → g' a b c = g a b c) (hb : x'.block = xs[i].block) (ho : x'.own = xs[i].own) : Inv E cl g' (xs.set i x') := by
  refine h.next i hi x' hx (hg _ _ _ (by omega)) (fun b b0 b4 => ?_) (fun b b0 b4 hc => ?_) (fun t t0 t1 => ?_) (fun h0 => ?_) (fun t _ ht h0 => ⟨hg _ _ _ (by omega), by rw [← ho]; exact ht⟩) (fun t _ _ _ => hg _ _ _ (by omega)) (fun _ e => absurd ho e)
  · rw [hg _ _ _ (by omega), cnt_same xs i hi x' hb]
    exact h.word b b0 b4
  · rw [cnt_same xs i hi x' hb]
    exact h.shut b b0 b4 hc
  · rw [hg _ _ _ (by omega)]
    exact h.zero t t0 t1
  · rw [hg _ _ _ (by omega), ho]
    rw [ho] at h0
    exact h.own i hi h0

/-- The keeper: what is under way. -/
inductive KOp where
  | none
  | more (k : BlkS)
  | less (k : BlkS)
def Plain (E : Int) (cl : Int → Bool) (n : Int) : Prop := ∀ b, 0 ≤ b → b < 4 → cl b = decide (n ≤ b ∧ b < E)
def KInv (E : Int) (cl : Int → Bool) (n : Int) : KOp → Prop
  | .none => Plain E cl n
  | .more k => (k.line = 1 ∧ Plain E cl n) ∨ (k.line = 2 ∧ k.blocks = n ∧ n < 4 ∧ Plain E cl n) ∨ (k.line = 3 ∧ k.blocks = n - 1 ∧ 2 ≤ n ∧ ∀ b, 0 ≤ b → b < 4 → b ≠ n - 1 → cl b = decide (n ≤ b ∧ b < E))
  | .less k => (k.line = 1 ∧ Plain E cl n) ∨ (k.line = 2 ∧ k.blocks = n ∧ 2 ≤ n ∧ Plain E cl n) ∨ (k.line = 3 ∧ k.blocks = n ∧ 2 ≤ n ∧ Plain E cl (n - 1))

/-- A block of those there ever were, that is not closed, is there. -/
theorem KInv.lt {E : Int} {cl : Int → Bool} {n : Int} {K : KOp} (h : KInv E cl n K) {b : Int} (b0 : 0 ≤ b) (b4 : b < 4) (bE : b < E) (hc : cl b = false) : b < n := by
  have key : ∀ m, m ≤ n → Plain E cl m → b < n := fun m hm hp => by
    rw [hp b b0 b4, decide_eq_false_iff_not] at hc
    omega
  cases K with
  | none => exact key n (by omega) h
  | more k =>
    rcases h with ⟨_, hp⟩ | ⟨_, _, _, hp⟩ | ⟨_, _, _, hp⟩
    · exact key n (by omega) hp
    · exact key n (by omega) hp
    · by_cases e : b = n - 1
      · omega
      · rw [hp b b0 b4 e, decide_eq_false_iff_not] at hc
        omega
  | less k =>
    rcases h with ⟨_, hp⟩ | ⟨_, _, _, hp⟩ | ⟨_, _, _, hp⟩
    · exact key n (by omega) hp
    · exact key n (by omega) hp
    · exact key (n - 1) (by omega) hp

/-- A thread that has an actor's name is counted. -/
theorem Good.own_block {i : Nat} {E : Int} {x : Act} (h : Good i E x) (h0 : 0 ≤ x.own) : x.block = x.own / 4 ∧ x.own / 4 < E := by
  obtain ⟨t, o⟩ := x
  cases o with
  | none =>
    simp only [Good, Act.own, Act.block] at *
    rw [if_pos h0]
    omega
  | join j =>
    simp only [Good, Act.own, Act.block, JGood] at *
    split at h0
    · rename_i e
      rw [if_pos (by omega), if_pos e]
      omega
    · omega
  | leave l =>
    simp only [Good, Act.own, Act.block, LGood] at *
    split at h0
    · rename_i e
      rw [if_pos e]
      omega
    · omega
theorem Inv.open_ {E : Int} {cl : Int → Bool} {g : Int → Int → Int → Int} {xs : List Act} (h : Inv E cl g xs) {i : Nat} (hi : i < xs.length) (b0 : 0 ≤ xs[i].block) (b4 : xs[i].block < 4) : cl xs[i].block = false := by
  cases hc : cl xs[i].block
  · rfl
  · have h1 := h.shut _ b0 b4 hc
    have h2 := cnt_pos xs i hi
    omega
theorem Inv.sound {E : Int} {cl : Int → Bool} {g : Int → Int → Int → Int} {xs : List Act} (h : Inv E cl g xs) {K : KOp} (hk : KInv E cl (g 5 0 0) K) (t : Int) (t0 : g 5 0 0 * 4 ≤ t) (t1 : t < 16) : g 8 t 0 = 0 := by
  have h1 := h.n1
  refine Decidable.not_not.1 (fun hh => ?_)
  obtain ⟨i, hi, ho⟩ := h.owned t (by omega) t1 hh
  obtain ⟨e1, e2⟩ := (h.good i hi).own_block (by omega)
  rw [ho] at e1 e2
  have h2 := h.open_ hi (by omega) (by omega)
  rw [e1] at h2
  have := hk.lt (by omega) (by omega) e2 h2
  omega

end Go.Proofs.YtghkdkdlbkmicaaDoor.law11
