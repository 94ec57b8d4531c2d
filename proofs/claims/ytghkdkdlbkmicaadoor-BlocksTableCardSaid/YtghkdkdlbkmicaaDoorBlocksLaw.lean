/- BlocksTable: the law's state, and what each call within it leaves. -/
import Derived.Test.YtghkdkdlbkmicaaDoorActor
import Derived.Test.YtghkdkdlbkmicaaDoorKeep
import Derived.Test.YtghkdkdlbkmicaaDoorRows2
namespace Go.Proofs.YtghkdkdlbkmicaaDoor.law11
open Go.RowKit

/-- The actors in block B, the keeper in block C; E blocks there ever were, n there are. -/
structure LawB (w0 : World) (m mb B C : Nat) (E n : Int) (xs : List Act) (x : KOp) (σ : MS) (cl : Int → Bool) (cs : Array Value) (fp : Nat → List Nat) (bk : List Nat) (w : World) : Prop where
  sys : Sys w0 w m mb σ
  ring : Ring3 ActAt w w0.heap.size [m, mb] B 97 xs cs fp
  keep : KAt w C bk x
  loC : w0.heap.size ≤ C ∧ C ≠ m ∧ C ≠ mb ∧ C ≠ B
  own : ∀ y ∈ bk, w0.heap.size ≤ y ∧ y ≠ m ∧ y ≠ mb ∧ y ≠ C ∧ y ≠ B
  far : ∀ i, i < xs.length → ∀ y ∈ fp i, y ≠ C ∧ y ∉ bk
  inv : Inv E cl σ.g xs
  kinv : KInv E cl (σ.g 5 0 0) x
  n : σ.g 5 0 0 = n
def Law (w0 : World) (m mb B C : Nat) (E n : Int) (xs : List Act) (x : KOp) (w : World) : Prop := ∃ σ cl cs fp bk, LawB w0 m mb B C E n xs x σ cl cs fp bk w

theorem Ring3.keepFar {X : Type} {A : World → List Nat → Value → Value → Value → X → Prop} {w w' : World} {base : Nat} {N : List Nat} {B : Nat} {T : TypeId} {xs : List X} {cs : Array Value} {fp : Nat → List Nat} (hA : Lain A)
    (h : Ring3 A w base N B T xs cs fp) {S : List Nat} (hM : Mod w w' S) (hS : ∀ y ∈ S, y ≠ B ∧ ∀ i, i < xs.length → y ∉ fp i) : Ring3 A w' base N B T xs cs fp := by
  refine ⟨h.has.mod hM (fun hb => (hS B hb).1 rfl), h.loB, h.nB, fun i hi => ?_, h.lo, h.apart⟩
  obtain ⟨a, b, c, h1, h2⟩ := h.at_ i hi
  exact ⟨a, b, c, h1, hA.mod h2 hM (fun y hy hb => (hS y hb).2 i hi hy)⟩

section
variable {w0 w : World} {m mb B C : Nat} {E n : Int} {xs : List Act} {x : KOp}

theorem law_mod (h : Law w0 m mb B C E n xs x w) : Mod w0 w [] := by
  obtain ⟨σ, cl, cs, fp, bk, h⟩ := h
  exact h.sys.mod
theorem law_n (h : Law w0 m mb B C E n xs x w) : 1 ≤ n ∧ n ≤ E ∧ E ≤ 4 := by
  obtain ⟨σ, cl, cs, fp, bk, h⟩ := h
  have h1 := h.inv.n1
  have h2 := h.inv.nE
  rw [h.n] at h1 h2
  exact ⟨h1, h2, h.inv.E4⟩
theorem law_len (h : Law w0 m mb B C E n xs x w) (k : Nat) (hk : k < xs.length) : k < 8 := by
  obtain ⟨σ, cl, cs, fp, bk, h⟩ := h
  have := h.inv.len
  omega
theorem law_cell (h : Law w0 m mb B C E n xs x w) {g i : Nat} {v : Value} (hc : w0.cell? ⟨g, i, none⟩ = some v) : w.cell? ⟨g, i, none⟩ = some v := cell_mod hc (law_mod h) (by simp)

/-- The memory alone has turned, none of its words. -/
theorem LawB.anew {σ : MS} {cl : Int → Bool} {cs : Array Value} {fp : Nat → List Nat} {bk : List Nat} (h : LawB w0 m mb B C E n xs x σ cl cs fp bk w) {w' : World} {σ' : MS} (hM : Mod w w' [m]) (hs : Sys w0 w' m mb σ') (hg : σ'.g = σ.g) : LawB w0 m mb B C E n xs x σ' cl cs fp bk w' :=
  ⟨hs, h.ring.keep actLain hM (by simp), h.keep.mod hM (by simpa using h.loC.2.1) (fun y hy => by simpa using (h.own y hy).2.1), h.loC, h.own, h.far, by rw [hg]; exact h.inv, by rw [hg]; exact h.kinv, by rw [hg]; exact h.n⟩
theorem law_mod0 (h : Law w0 m mb B C E n xs x w) {w' : World} (hM : Mod w w' []) : Law w0 m mb B C E n xs x w' := by
  obtain ⟨σ, cl, cs, fp, bk, h⟩ := h
  exact ⟨σ, cl, cs, fp, bk, h.anew (hM.wider (by simp)) (h.sys.keep hM (by simp) (by simp) (by simp)) rfl⟩

theorem law_many (h : Law w0 m mb B C E n xs x w) : Calls Tryd.prog 42 #[.pointer (some ⟨m, 0, none⟩)] w fun e w' => e = .returned (.int .i64 n) ∧ Law w0 m mb B C E n xs x w' := by
  have h3 := law_n h
  obtain ⟨σ, cl, cs, fp, bk, h⟩ := h
  refine (many_any ⟨σ, h.sys, rfl⟩ (by rw [h.n]; omega)).mono ?_
  rintro e w' ⟨rfl, ⟨σ', hs, hg⟩, hM⟩
  exact ⟨by rw [h.n], σ', cl, cs, fp, bk, h.anew hM hs hg⟩
theorem law_sound (h : Law w0 m mb B C E n xs x w) : Calls Tryd.prog 43 #[.pointer (some ⟨m, 0, none⟩)] w fun e w' => e = .returned (.bool true) ∧ Law w0 m mb B C E n xs x w' := by
  have h3 := law_n h
  obtain ⟨σ, cl, cs, fp, bk, h⟩ := h
  refine (sound_any ⟨σ, h.sys, rfl⟩ (by rw [h.n]; omega) (by rw [h.n]; omega) (fun t t0 t1 => h.inv.sound h.kinv t t0 t1)).mono ?_
  rintro e w' ⟨rfl, ⟨σ', hs, hg⟩, hM⟩
  exact ⟨rfl, σ', cl, cs, fp, bk, h.anew hM hs hg⟩
theorem law_load (h : Law w0 m mb B C E n xs .none w) (b : Nat) (hb : b < 4) (hbE : (b : Int) < E) : Calls Tryd.prog 14 #[.pointer (some ⟨m, 0, none⟩), K 7 b 0] w fun e w' =>
    ∃ k : Int, 0 ≤ k ∧ k < 4294967296 ∧ e = .returned (.int .u64 (blockW k (decide (n ≤ b)))) ∧ Law w0 m mb B C E n xs .none w' := by
  obtain ⟨σ, cl, cs, fp, bk, h⟩ := h
  refine (load_any w m mb σ h.sys.mem 7 b 0).mono ?_
  rintro e w' ⟨rfl, hM, hm⟩
  have h8 := h.inv.len
  have hcn := cnt_le xs b
  have hk := h.kinv b (by omega) (by omega)
  refine ⟨cnt xs b, by omega, by omega, ?_, σ.load 7 b 0, cl, cs, fp, bk, h.anew hM (h.sys.next hM (by simpa using h.sys.lo) hm) rfl⟩
  rw [h.inv.word b (by omega) (by omega), hk, h.n]
  congr 4
  apply propext
  omega

/-- An actor's step. -/
theorem law_actor (h : Law w0 m mb B C E n xs x w) (i : Nat) (hi : i < xs.length) :
    Calls Tryd.prog 41 #[.pointer (some ⟨B, i * 3, none⟩), .pointer (some ⟨m, 0, none⟩), .int .i64 i] w fun e w' =>
      e = .returned (.bool true) ∧ ∃ x', Law w0 m mb B C E n (xs.set i x') x w' := by
  have h3 := law_n h
  have h8 := law_len h i hi
  obtain ⟨σ, cl, cs, fp, bk, h⟩ := h
  obtain ⟨a, b, c, hT⟩ := h.ring.begin i hi
  have hg := h.inv.good i hi
  have hbeg := h.inv.begun i hi
  have hr := h.sys.mem.range
  have hnB : B ≠ m ∧ B ≠ mb := by
    have := h.ring.nB
    simpa using this
  -- the step, and what the plain law says of it
  have key : ∀ (x0 : Act), xs[i].begun i = x0 → Fine x0 σ ∧ Inv E cl (Act.go x0 σ).2 (xs.set i (Act.go x0 σ).1) ∧ (Act.go x0 σ).2 5 0 0 = n := by
    intro x0 e0
    rw [e0] at hbeg
    have hi' : i < (xs.set i x0).length := by simpa using hi
    have hx0 : (xs.set i x0)[i] = x0 := List.getElem_set_self _
    obtain ⟨t, o⟩ := x0
    cases o with
    | none =>
      exfalso
      generalize xs[i] = y at e0
      obtain ⟨t2, o2⟩ := y
      cases o2 with
      | none =>
        simp only [Act.begun] at e0
        split at e0 <;> simp at e0
      | join j => simp [Act.begun] at e0
      | leave l => simp [Act.begun] at e0
    | join j =>
      have hgd := hbeg.good i hi'
      rw [hx0] at hgd
      obtain ⟨ht, ho, _⟩ := hgd
      simp only at ht
      subst ht
      obtain ⟨k1, k2, k3, k4⟩ := hbeg.join hr i hi' hx0
      rw [List.set_set] at k1
      rw [h.n] at k2
      refine ⟨⟨jok hbeg hi' hx0, by omega, by omega, by omega, fun e1 e2 => ?_⟩, k1, k2⟩
      obtain ⟨f1, f2, f3⟩ := k4 e1 e2
      have := h.kinv.lt (b := (j.step σ).1.thread / 4) (by omega) (by omega) (by omega) f3
      rw [h.n] at this
      exact ⟨f1, by omega⟩
    | leave l =>
      obtain ⟨k1, k2, k3⟩ := hbeg.leave hr i hi' hx0
      rw [List.set_set] at k1
      rw [h.n] at k2
      exact ⟨⟨lok hbeg hi' hx0, k3⟩, k1, k2⟩
  have hC := h.keep.lt
  have hfin : ∀ (x0 x' : Act) (g' : Int → Int → Int → Int), xs[i].begun i = x0 → Act.go x0 σ = (x', g') → ∀ e w', Stepped w0 w m mb B 97 (i * 3) cs (fp i) x' g' e w' → e = .returned (.bool true) ∧ ∃ x', Law w0 m mb B C E n (xs.set i x') x w' := by
    rintro x0 x' g' e0 eg e w' ⟨he, ⟨σ', hs', hg'⟩, bs', a', b', c', cs', hT'⟩
    obtain ⟨_, k1, k2⟩ := key x0 e0
    rw [eg] at k1 k2
    simp only at k1 k2
    subst hg'
    have hne : ∀ y, (y = C ∨ y ∈ bk) → y ∉ [m, mb] ++ B :: fp i := by
      intro y hy
      simp only [List.mem_append, List.mem_cons, List.not_mem_nil, or_false, not_or]
      rcases hy with rfl | hy
      · exact ⟨⟨h.loC.2.1, h.loC.2.2.1⟩, h.loC.2.2.2, fun hb => (h.far i hi y hb).1 rfl⟩
      · have := h.own y hy
        exact ⟨⟨this.2.1, this.2.2.1⟩, this.2.2.2.2, fun hb => (h.far i hi y hb).2 hy⟩
    refine ⟨he, x', σ', cl, cs', _, bk, ⟨hs', h.ring.turn actLain i hi hT', h.keep.mod hT'.mod (hne C (.inl rfl)) (fun y hy => hne y (.inr hy)), h.loC, h.own, fun k hk y hy => ?_, k1, ?_, k2⟩⟩
    · simp only [List.length_set] at hk
      by_cases ek : k = i
      · simp only [ek, if_true] at hy
        rcases hT'.sub y hy with e1 | e1
        · exact h.far i hi y e1
        · exact ⟨by omega, fun hb => by have := hC.2 y hb; omega⟩
      · simp only [if_neg ek] at hy
        exact h.far k hk y hy
    · rw [k2, ← h.n]
      exact h.kinv
  obtain ⟨x', g', eg⟩ : ∃ x' g', Act.go (xs[i].begun i) σ = (x', g') := ⟨_, _, rfl⟩
  have hk := (key _ rfl).1
  have hfin2 := hfin _ x' g' rfl eg
  generalize xs[i] = y at hT hg eg hk
  obtain ⟨t, o⟩ := y
  cases o with
  | none =>
    have ht16 : t < 16 := by
      simp only [Good] at hg
      omega
    exact (step_none (i : Int) (by omega) (by omega) ht16 h.sys hT h.ring.loB hnB.1 hnB.2 hk x' g' eg).mono hfin2
  | join j => exact (step_join (i : Int) h.sys hT h.ring.loB hnB.1 hnB.2 hk x' g' eg).mono hfin2
  | leave l => exact (step_leave (i : Int) h.sys hT h.ring.loB hnB.1 hnB.2 hk x' g' eg).mono hfin2

/-- The keeper's step. -/
theorem law_keeper (h : Law w0 m mb B C E n xs x w) (grow : Bool) :
    Calls Tryd.prog 40 #[.pointer (some ⟨C, 0, none⟩), .pointer (some ⟨m, 0, none⟩), .bool grow] w fun e w' =>
      e = .returned (.tuple #[]) ∧ ∃ x' n', Law w0 m mb B C (max E n') n' xs x' w' ∧ x'.rank ≤ (x.begun grow).rank - 1 := by
  obtain ⟨σ, cl, cs, fp, bk, h⟩ := h
  have hk0 := h.kinv.begun grow
  have key : KFine (x.begun grow) σ ∧ Kept E (KOp.go (x.begun grow) σ).2 xs (KOp.go (x.begun grow) σ).1 (x.begun grow).rank := by
    generalize hx0 : x.begun grow = x0 at hk0
    cases x0 with
    | none =>
      exfalso
      cases x with
      | none =>
        simp only [KOp.begun] at hx0
        split at hx0 <;> simp at hx0
      | more k => simp [KOp.begun] at hx0
      | less k => simp [KOp.begun] at hx0
    | more k => exact ⟨mOk h.inv hk0, h.inv.more hk0⟩
    | less k => exact ⟨lOk h.inv hk0, h.inv.less hk0⟩
  obtain ⟨x', g', eg⟩ : ∃ x' g', KOp.go (x.begun grow) σ = (x', g') := ⟨_, _, rfl⟩
  obtain ⟨hf, cl', k1, k2, k3⟩ := key
  rw [eg] at k1 k2 k3
  simp only at k1 k2 k3
  have hbk : ∀ y ∈ bk, w0.heap.size ≤ y ∧ y ∉ [m, mb] ∧ y ≠ C := fun y hy => by
    have := h.own y hy
    exact ⟨this.1, by simp; exact ⟨this.2.1, this.2.2.1⟩, this.2.2.2.1⟩
  have hB := h.ring.has.lt
  have hnB : B ≠ m ∧ B ≠ mb := by
    have := h.ring.nB
    simpa using this
  have hfin : ∀ e w', KStepped w0 w m mb C bk x' g' e w' → e = .returned (.tuple #[]) ∧ ∃ x' n', Law w0 m mb B C (max E n') n' xs x' w' ∧ x'.rank ≤ (x.begun grow).rank - 1 := by
    rintro e w' ⟨he, ⟨σ', hs', rfl⟩, bs', hK, hlo, hsub, hM⟩
    refine ⟨he, x', σ'.g 5 0 0, ⟨σ', cl', cs, fp, bs', ⟨hs', Ring3.keepFar actLain h.ring hM (fun y hy => ?_), hK, h.loC, fun y hy => ?_, fun i hi y hy => ⟨(h.far i hi y hy).1, fun hb => ?_⟩, k1, k2, rfl⟩⟩, k3⟩
    · simp only [List.mem_append, List.mem_cons, List.not_mem_nil, or_false] at hy
      rcases hy with (rfl | rfl) | rfl | hy
      · exact ⟨hnB.1.symm, fun i hi hb => (h.ring.lo i y hi hb).2.1 (by simp)⟩
      · exact ⟨hnB.2.symm, fun i hi hb => (h.ring.lo i y hi hb).2.1 (by simp)⟩
      · exact ⟨h.loC.2.2.2, fun i hi hb => (h.far i hi y hb).1 rfl⟩
      · exact ⟨(h.own y hy).2.2.2.2, fun i hi hb => (h.far i hi y hb).2 hy⟩
    · have h1 := hlo y hy
      simp only [List.mem_cons, List.not_mem_nil, or_false, not_or] at h1
      refine ⟨h1.1, h1.2.1.1, h1.2.1.2, h1.2.2, ?_⟩
      rcases hsub y hy with e1 | e1
      · exact (h.own y e1).2.2.2.2
      · omega
    · rcases hsub y hb with e1 | e1
      · exact (h.far i hi y hy).2 e1
      · have := h.ring.lt actLain hi hy
        omega
  by_cases hx : x = .none
  · subst hx
    exact (keep_none grow h.sys h.keep h.loC.1 h.loC.2.1 h.loC.2.2.1 hf x' g' eg).mono hfin
  · have hb : x.begun grow = x := by
      cases x with
      | none => exact absurd rfl hx
      | more k => rfl
      | less k => rfl
    rw [hb] at hf eg
    exact (keep_on grow h.sys h.keep hx h.loC.1 h.loC.2.1 h.loC.2.2.1 hbk hf x' g' eg).mono hfin

/-- What the two pointers of an actor are; of the keeper. -/
theorem law_pointers (h : Law w0 m mb B C E n xs x w) {i : Nat} (hi : i < xs.length) :
    (w.cell? ⟨B, i * 3 + 1, none⟩ = some (.pointer none) ∧ w.cell? ⟨B, i * 3 + 2, none⟩ = some (.pointer none)) ∨
    (∃ b, (w.cell? ⟨B, i * 3 + 1, none⟩ = some (.pointer (some ⟨b, 0, none⟩)) ∧ w.cell? ⟨B, i * 3 + 2, none⟩ = some (.pointer none)) ∨ (w.cell? ⟨B, i * 3 + 1, none⟩ = some (.pointer none) ∧ w.cell? ⟨B, i * 3 + 2, none⟩ = some (.pointer (some ⟨b, 0, none⟩)))) := by
  obtain ⟨σ, cl, cs, fp, bk, h⟩ := h
  obtain ⟨a, b, c, h1, h2, h3⟩ := h.ring.at_ i hi
  have c1 := h.ring.has.cell (i * 3 + 1)
  have c2 := h.ring.has.cell (i * 3 + 2)
  rw [h1.c1] at c1
  rw [h1.c2] at c2
  generalize xs[i] = y at h3
  obtain ⟨t, o⟩ := y
  cases o with
  | none =>
    obtain ⟨_, rfl, rfl⟩ := h3
    exact .inl ⟨c1, c2⟩
  | join j =>
    obtain ⟨y, _, rfl, rfl, _⟩ := h3
    exact .inr ⟨y, .inl ⟨c1, c2⟩⟩
  | leave l =>
    obtain ⟨y, _, rfl, rfl, _⟩ := h3
    exact .inr ⟨y, .inr ⟨c1, c2⟩⟩
theorem law_keptr (h : Law w0 m mb B C E n xs x w) :
    (x = .none ∧ w.cell? ⟨C, 0, none⟩ = some (.pointer none) ∧ w.cell? ⟨C, 1, none⟩ = some (.pointer none)) ∨
    (1 ≤ x.rank ∧ (∀ g, x.begun g = x) ∧ ∃ b, (w.cell? ⟨C, 0, none⟩ = some (.pointer (some ⟨b, 0, none⟩)) ∧ w.cell? ⟨C, 1, none⟩ = some (.pointer none)) ∨ (w.cell? ⟨C, 0, none⟩ = some (.pointer none) ∧ w.cell? ⟨C, 1, none⟩ = some (.pointer (some ⟨b, 0, none⟩)))) := by
  obtain ⟨σ, cl, cs, fp, bk, h⟩ := h
  obtain ⟨a, b, h1, h3⟩ := h.keep
  have c1 := h1.cell 0
  have c2 := h1.cell 1
  simp only [getRules] at c1 c2
  have hr := h.kinv.rank.2
  cases x with
  | none =>
    obtain ⟨_, rfl, rfl⟩ := h3
    exact .inl ⟨rfl, c1, c2⟩
  | more k =>
    obtain ⟨y, _, rfl, rfl, _⟩ := h3
    exact .inr ⟨Nat.pos_of_ne_zero (fun e => by cases hr e), fun _ => rfl, y, .inl ⟨c1, c2⟩⟩
  | less k =>
    obtain ⟨y, _, rfl, rfl, _⟩ := h3
    exact .inr ⟨Nat.pos_of_ne_zero (fun e => by cases hr e), fun _ => rfl, y, .inr ⟨c1, c2⟩⟩
theorem law_rank (h : Law w0 m mb B C E n xs x w) : x.rank ≤ 3 := by
  obtain ⟨σ, cl, cs, fp, bk, h⟩ := h
  exact h.kinv.rank.1
end

end Go.Proofs.YtghkdkdlbkmicaaDoor.law11
