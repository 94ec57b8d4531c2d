/- A snapshot of the threads, taken by one alone. -/
import Derived.Test.YtlecajmnmhpjkaaErasMore
import Derived.Laws.EntriesVeiled
namespace Go.Proofs.Ytlecajmnmhpjkaa
open Go.RowKit

def fnBlocks (b : Nat) : Value := .func (.func 43) #[.pointer (some ⟨b, 0, none⟩)] #[]
def fnWord (b : Nat) : Value := .func (.func 49) #[.pointer (some ⟨b, 0, none⟩)] #[]
def takerO (next thr : Value) (a f all : Int) : Obj := .cells #[next, thr, .int .u64 0, .int .i64 a, .int .i64 f, .int .i64 all] 90

@[go_sem] theorem eql_func (fn : Fn) (xs ys : Array Value) (w : World) : (binOp .eql 88 (.func fn xs ys) .nilFunc).run Try.prog w = .ok (.bool false) w := by kernel_rfl
@[go_sem] theorem eql_nilFunc (w : World) : (binOp .eql 88 .nilFunc .nilFunc).run Try.prog w = .ok (.bool true) w := by kernel_rfl
@[go_sem] theorem neq_func (fn : Fn) (xs ys : Array Value) (w : World) : (binOp .neq 88 (.func fn xs ys) .nilFunc).run Try.prog w = .ok (.bool true) w := by kernel_rfl
@[go_sem] theorem neq_nilFunc (w : World) : (binOp .neq 88 .nilFunc .nilFunc).run Try.prog w = .ok (.bool false) w := by kernel_rfl

set_option maxRecDepth 100000 in
theorem newTaker_any (w : World) : Calls Try.prog 31 #[] w fun e w' => e = .returned (.pointer (some ⟨w.heap.size, 0, none⟩)) ∧ Mod w w' [] ∧ Has w' w.heap.size (takerO (fnBlocks w.heap.size) (.slice none 0 0) 0 0 0) := by
  go_enter Try.func31, Try.ntmps31
  go_wp2
  go_ret
  exact ⟨rfl, (Mod.refl _ _).alloc _, Has.new w _⟩

set_option maxRecDepth 100000 in
theorem takerOver_no (w : World) (b : Nat) (fn : Fn) (xs ys : Array Value) (thr : Value) (a f all : Int) (h : Has w b (takerO (.func fn xs ys) thr a f all)) :
    Calls Try.prog 32 #[.pointer (some ⟨b, 0, none⟩)] w fun e w' => e = .returned (.bool false) ∧ w = w' := by
  unfold takerO at h
  have c_h_0 := h.cell 0; simp only [getRules] at c_h_0
  go_enter Try.func32, Try.ntmps32
  go_wp2
  go_ret
  exact ⟨rfl, rfl⟩
set_option maxRecDepth 100000 in
theorem takerOver_yes (w : World) (b : Nat) (thr : Value) (a f all : Int) (h : Has w b (takerO .nilFunc thr a f all)) :
    Calls Try.prog 32 #[.pointer (some ⟨b, 0, none⟩)] w fun e w' => e = .returned (.bool true) ∧ w = w' := by
  unfold takerO at h
  have c_h_0 := h.cell 0; simp only [getRules] at c_h_0
  go_enter Try.func32, Try.ntmps32
  go_wp2
  go_ret
  exact ⟨rfl, rfl⟩

set_option maxHeartbeats 1000000 in
theorem put_any (w : World) (T o : Nat) (arr : Array Value) (ty : TypeId) (f : Nat) (x : Int) (hf : f < 10) (ho : o + 10 ≤ arr.size) (h : Has w T (.cells arr ty)) :
    Calls Try.prog 50 #[.pointer (some ⟨T, o, none⟩), .int .i64 f, .int .u64 x] w fun e w' => e = .returned (.tuple #[]) ∧ Mod w w' [T] ∧ Has w' T (.cells (arr.setIfInBounds (o + f) (.int .u64 x)) ty) := by
  have hl := h.lt
  have fz := h.frozen
  obtain ⟨v, hc⟩ : ∃ v, w.cell? ⟨T, o + f, none⟩ = some v := ⟨arr[o + f], by rw [h.cell]; simp⟩
  have key : f = 0 ∨ f = 1 ∨ f = 2 ∨ f = 3 ∨ f = 4 ∨ f = 5 ∨ f = 6 ∨ f = 7 ∨ f = 8 ∨ f = 9 := by omega
  have hS : Mod w (w.setCell ⟨T, o + f, none⟩ (.int .u64 x)) [T] := (Mod.refl _ _).setCell (.inl (by simp)) _
  have hH := h.set_same (o + f) (.int .u64 x)
  have HS := Lib.hid hS
  have HH := Lib.hid hH
  clear hS hH h ho hf
  rcases key with rfl | rfl | rfl | rfl | rfl | rfl | rfl | rfl | rfl | rfl
  all_goals
    try simp only [Nat.add_zero] at hc
    go_enter Try.func50, Try.ntmps50
    go_wp2
    (first | go_end0 | refine bodyPost_ret (results_none (by kernel_rfl) _ _ _) rfl ?_)
    exact ⟨rfl, HS.out, HH.out⟩

/-- What a snapshot tells of a thread: its words, or nothing, if nobody owns it. -/
def thrW (g : Int → Int → Int → Int) (t i : Nat) : Int := if g 8 t 0 = 0 then 0 else g 8 t i
/-- .. while it is at word f of thread a. -/
def valW (g : Int → Int → Int → Int) (a f i : Nat) : Int := if i / 10 < a then thrW g (i / 10) (i % 10) else if i / 10 = a ∧ i % 10 < f then g 8 a (i % 10 : Nat) else 0
structure TakeArr (arr : Array Value) (g : Int → Int → Int → Int) (a f : Nat) : Prop where
  size : arr.size = 40
  at_ : ∀ i, i < 40 → arr[i]? = some (.int .u64 (valW g a f i))
def zero40 : Array Value := Array.replicate 40 (.int .u64 0)
theorem TakeArr.new (g : Int → Int → Int → Int) : TakeArr zero40 g 0 0 := ⟨by simp [zero40], fun i hi => by simp [zero40, hi, valW]⟩
theorem TakeArr.set {arr : Array Value} {g : Int → Int → Int → Int} {a f : Nat} (h : TakeArr arr g a f) (_ha : a < 4) (hf : f < 10) : TakeArr (arr.setIfInBounds (a * 10 + f) (.int .u64 (g 8 a f))) g a (f + 1) := by
  refine ⟨by simpa using h.size, fun i hi => ?_⟩
  have hs := h.size
  rw [Array.getElem?_setIfInBounds]
  by_cases e : a * 10 + f = i
  · rw [if_pos e, if_pos (by omega)]
    have e1 : i / 10 = a := by omega
    have e2 : i % 10 = f := by omega
    unfold valW
    rw [e1, e2, if_neg (by omega), if_pos ⟨rfl, by omega⟩]
  · rw [if_neg e, h.at_ i hi]
    unfold valW
    by_cases e1 : i / 10 < a
    · rw [if_pos e1, if_pos e1]
    · rw [if_neg e1, if_neg e1]
      by_cases e2 : i / 10 = a ∧ i % 10 < f
      · rw [if_pos e2, if_pos ⟨e2.1, by omega⟩]
      · rw [if_neg e2, if_neg (by omega)]
theorem TakeArr.done {arr : Array Value} {g : Int → Int → Int → Int} {a f : Nat} (h : TakeArr arr g a (f + 1)) (hf : f < 10) (hv : (g 8 a 0 = 0 ∧ f = 0) ∨ (g 8 a 0 ≠ 0 ∧ f = 9)) : TakeArr arr g (a + 1) 0 := by
  refine ⟨h.size, fun i hi => ?_⟩
  rw [h.at_ i hi]
  congr 2
  unfold valW
  by_cases e1 : i / 10 < a
  · rw [if_pos e1, if_pos (by omega)]
  · rw [if_neg e1]
    by_cases e2 : i / 10 = a
    · rw [if_pos (show i / 10 < a + 1 by omega), e2]
      unfold thrW
      rcases hv with ⟨h0, rfl⟩ | ⟨h0, rfl⟩
      · rw [if_pos h0]
        by_cases e3 : i % 10 < 0 + 1
        · rw [if_pos ⟨rfl, e3⟩, show i % 10 = 0 by omega]
          exact h0
        · rw [if_neg (by omega)]
      · rw [if_neg h0, if_pos ⟨rfl, by omega⟩]
    · rw [if_neg (by omega), if_neg (by omega), if_neg (by omega)]

/-- A Taker at word f of thread a; a is 4: it is over. -/
structure TakeAt (w : World) (b T : Nat) (g : Int → Int → Int → Int) (a f : Nat) : Prop where
  obj : Has w b (takerO (if a = 4 then .nilFunc else fnWord b) (.slice (some ⟨T, 0, none⟩) 4 4) a f 4)
  arr : ∃ arr, Has w T (.cells arr 78) ∧ TakeArr arr g a f
  ne : T ≠ b
  ha : a ≤ 4
  hf : f = 0 ∨ (f < 10 ∧ a < 4 ∧ g 8 a 0 ≠ 0)

theorem TakeArr.owner {arr : Array Value} {g : Int → Int → Int → Int} {a f : Nat} (h : TakeArr arr g a (f + 1)) (ha : a < 4) : arr[a * 10]? = some (.int .u64 (g 8 a 0)) := by
  rw [h.at_ _ (by omega)]
  congr 2
  unfold valW
  rw [if_neg (by omega), if_pos (by omega), show a * 10 % 10 = 0 by omega]
  rfl

theorem make_threads (w : World) : (Instr.makeSlice 42 (.int .i64 4) (.int .i64 4)).run Try.prog w = .ok (.slice (some ⟨w.heap.size, 0, none⟩) 4 4) (w.alloc (.cells zero40 78)) := by
  kernel_rfl

set_option maxRecDepth 100000 in
set_option maxHeartbeats 2000000 in
theorem takerBlocks (w : World) (b m mb : Nat) (σ : MS) (hb : σ.g 5 0 0 = 1) (h : Has w b (takerO (fnBlocks b) (.slice none 0 0) 0 0 0)) (hm : MemAt w m mb σ) (n1 : b ≠ m) (n2 : b ≠ mb) :
    Calls Try.prog 43 #[.pointer (some ⟨b, 0, none⟩), .pointer (some ⟨m, 0, none⟩)] w fun e w' =>
      e = .returned (.tuple #[]) ∧ ∃ T, w.heap.size ≤ T ∧ Mod w w' [m, b] ∧ MemAt w' m mb (σ.load 5 0 0) ∧ TakeAt w' b T σ.g 0 0 := by
  unfold takerO at h
  have hl := h.lt
  have hl1 := hm.lt
  have hl2 := hm.ltb
  have hmk := make_threads
  have c_h_0 := h.cell 0; simp only [getRules] at c_h_0
  go_enter Try.func43, Try.ntmps43
  go_wp2_with fail
  refine (load_any _ m mb σ hm 5 0 0).mono ?_
  rintro e w1 ⟨rfl, hm1, h1⟩
  rw [hb]
  replace h := h.mod hm1 (by simp; omega)
  clear c_h_0
  have c_h_0 := h.cell 0; have c_h_1 := h.cell 1; have c_h_2 := h.cell 2; have c_h_3 := h.cell 3; have c_h_4 := h.cell 4; have c_h_5 := h.cell 5; simp only [getRules] at c_h_0 c_h_1 c_h_2 c_h_3 c_h_4 c_h_5
  have fz := h.frozen
  have hl3 := h.lt
  go_wp2_with fail
  go_end0
  have hsz := hm1.size
  refine ⟨rfl, w1.heap.size, hsz, ?_, h1.mod (S := [b]) ?_ ?_ ?_, ⟨?_, ⟨zero40, ?_, TakeArr.new _⟩, by omega, by omega, .inl rfl⟩⟩
  · (repeat (first | with_reducible (first | exact hm1 | exact Mod.refl _ _ | apply Mod.drewN | apply Mod.drew | apply Mod.alloc | refine Mod.setCell ?_ ?_ _ | refine Mod.put ?_ ?_ _ | refine Mod.call ?_ hm1 ?_) | focus (simp; done) | focus (simp; omega)))
  · (repeat (first | with_reducible (first | exact Mod.refl _ _ | apply Mod.drewN | apply Mod.drew | apply Mod.alloc | refine Mod.setCell ?_ ?_ _ | refine Mod.put ?_ ?_ _) | focus (simp; done) | focus (simp; omega)))
  · simp; omega
  · simp; omega
  · rw [if_neg (by omega), show ((0 : Nat) : Int) = 0 from rfl]
    unfold Has at h
    unfold takerO fnWord
    focus (simp (disch := first | omega | (simp; done) | (simp; omega)) only [Has, heapRules, h]; first | done | with_reducible rfl)
  · exact Has.new_at _ _ _ (by simp)

set_option maxRecDepth 100000 in
set_option maxHeartbeats 4000000 in
theorem takerWord (w : World) (b m mb T : Nat) (σ : MS) (a f a' f' : Nat) (ha : a < 4) (hn : ((σ.g 8 a 0 = 0 ∨ f = 9) ∧ a' = a + 1 ∧ f' = 0) ∨ (σ.g 8 a 0 ≠ 0 ∧ f ≠ 9 ∧ a' = a ∧ f' = f + 1)) (h : TakeAt w b T σ.g a f) (hm : MemAt w m mb σ) (n1 : b ≠ m) (n2 : b ≠ mb) (n3 : T ≠ m) (n4 : T ≠ mb) :
    Calls Try.prog 49 #[.pointer (some ⟨b, 0, none⟩), .pointer (some ⟨m, 0, none⟩)] w fun e w' =>
      e = .returned (.tuple #[]) ∧ Mod w w' [m, b, T] ∧ MemAt w' m mb (σ.load 8 a f) ∧ TakeAt w' b T σ.g a' f' := by
  have HN := Lib.hid hn
  clear hn
  obtain ⟨hB, ⟨arr, hT, harr⟩, ne, _, hf⟩ := h
  rw [if_neg (by omega)] at hB
  have hf10 : f < 10 := by omega
  have hset := harr.set ha hf10
  have hown := hset.owner ha
  have hsz := harr.size
  have hput : a * 10 + 10 ≤ arr.size := by omega
  have hai : (a : Int) < 4 := by omega
  have HF := Lib.hid hf
  have HSET := Lib.hid hset
  clear hf hset harr
  unfold takerO fnWord at hB
  have hl := hB.lt
  have hlT := hT.lt
  have hl1 := hm.lt
  have hl2 := hm.ltb
  have c_hB_0 := hB.cell 0; have c_hB_1 := hB.cell 1; have c_hB_2 := hB.cell 2; have c_hB_3 := hB.cell 3; have c_hB_4 := hB.cell 4; have c_hB_5 := hB.cell 5; simp only [getRules] at c_hB_0 c_hB_1 c_hB_2 c_hB_3 c_hB_4 c_hB_5
  go_enter Try.func49, Try.ntmps49
  go_wp2_with fail
  go_quiet (fail)
  go_wp2_with fail
  go_region_held3 (fun W => W.cell? ⟨b, 3, none⟩ = some (.int .i64 a) ∧ W.cell? ⟨b, 4, none⟩ = some (.int .i64 f)) (first | exact ⟨by assumption, by assumption⟩ | (simp [go_sem, c_hB_3, c_hB_4]))
    (first | (go_at_call 21; go_must (refine (load_any _ m mb σ (hm.mod (S := []) (by (repeat (first | with_reducible (first | exact Mod.refl _ _ | apply Mod.drewN | apply Mod.drew | apply Mod.alloc | refine Mod.setCell ?_ ?_ _ | refine Mod.put ?_ ?_ _) | focus (simp; done) | focus (simp; omega)))) (by simp) (by simp)) 8 a f).mono ?_; rintro e w1 ⟨rfl, hm1, h1⟩; have hM1 : Mod w w1 [m] := (by (repeat (first | with_reducible (first | exact hm1 | exact Mod.refl _ _ | apply Mod.drewN | apply Mod.drew | apply Mod.alloc | refine Mod.setCell ?_ ?_ _ | refine Mod.put ?_ ?_ _ | refine Mod.call ?_ hm1 ?_) | focus (simp; done) | focus (simp; omega)))); replace hB := hB.mod hM1 (by simp; omega); replace hT := hT.mod hM1 (by simp; omega); clear c_hB_0 c_hB_1 c_hB_2 c_hB_3 c_hB_4 c_hB_5; have c_hB_0 := hB.cell 0; have c_hB_1 := hB.cell 1; have c_hB_2 := hB.cell 2; have c_hB_3 := hB.cell 3; have c_hB_4 := hB.cell 4; have c_hB_5 := hB.cell 5; simp only [getRules] at c_hB_0 c_hB_1 c_hB_2 c_hB_3 c_hB_4 c_hB_5; have fz := hB.frozen)) | (go_at_call 50; go_must (refine (put_any _ T (a * 10) arr _ f (σ.g 8 a f) hf10 hput hT).mono ?_; rintro e w2 ⟨rfl, hM2, hT2⟩; replace hB := hB.mod hM2 (by simp; omega); clear c_hB_0 c_hB_1 c_hB_2 c_hB_3 c_hB_4 c_hB_5 fz; have c_hB_0 := hB.cell 0; have c_hB_1 := hB.cell 1; have c_hB_2 := hB.cell 2; have c_hB_3 := hB.cell 3; have c_hB_4 := hB.cell 4; have c_hB_5 := hB.cell 5; simp only [getRules] at c_hB_0 c_hB_1 c_hB_2 c_hB_3 c_hB_4 c_hB_5; have fz := hB.frozen)))
  have co := hT2.cell (a * 10)
  rw [hown] at co
  have hl4 := hB.lt
  have hfi : (f : Int) < 10 := by omega
  have hfin : ∀ (W : World), Mod w2 W [b] → Has W b (takerO (if a' = 4 then .nilFunc else fnWord b) (.slice (some ⟨T, 0, none⟩) 4 4) a' f' 4) → TakeArr (arr.setIfInBounds (a * 10 + f) (.int .u64 (σ.g 8 a f))) σ.g a' f' → a' ≤ 4 → (f' = 0 ∨ (f' < 10 ∧ a' < 4 ∧ σ.g 8 a' 0 ≠ 0)) →
      Mod w W [m, b, T] ∧ MemAt W m mb (σ.load 8 a f) ∧ TakeAt W b T σ.g a' f' := by
    intro W hMW hHW hA h4 hf'
    have hTm : m ∉ [T] := by simp; omega
    have hTmb : mb ∉ [T] := by simp; omega
    have hbm : m ∉ [b] := by simp; omega
    have hbmb : mb ∉ [b] := by simp; omega
    refine ⟨((hM1.wider (S' := [m, b, T]) (by simp)).call hM2 (by simp)).call hMW (by simp), (h1.mod hM2 hTm hTmb).mod hMW hbm hbmb, ⟨hHW, ⟨_, hT2.mod hMW (by simpa using ne), hA⟩, ne, h4, hf'⟩⟩
  have HFIN := Lib.hid hfin
  clear hfin hown hT2 hT hput hsz
  rcases (show (σ.g 8 a 0 = 0 ∧ f = 0 ∧ a' = a + 1 ∧ f' = 0) ∨ (σ.g 8 a 0 ≠ 0 ∧ f = 9 ∧ a' = a + 1 ∧ f' = 0) ∨ (σ.g 8 a 0 ≠ 0 ∧ f < 9 ∧ a' = a ∧ f' = f + 1) by
    have h1 := HF.out
    have h2 := HN.out
    by_cases h0 : σ.g 8 a 0 = 0
    · rcases h1 with h | h
      · exact .inl ⟨h0, h, by omega, by omega⟩
      · exact absurd h0 h.2.2
    · rcases Nat.lt_or_ge f 9 with h | h
      · exact .inr (.inr ⟨h0, h, by omega, by omega⟩)
      · exact .inr (.inl ⟨h0, by omega, by omega, by omega⟩)) with ⟨h0, hf0, ha', hf'⟩ | ⟨h0, hf0, ha', hf'⟩ | ⟨h0, hf9, ha', hf'⟩
  · subst hf0
    have HA' := Lib.hid ha'
    have HF' := Lib.hid hf'
    clear ha' hf'
    rcases Nat.lt_or_ge a 3 with ha3 | ha3
    · have ha3' : (a : Int) < 3 := by omega
      have ha4 : ¬ ((a : Int) + 1 = 4) := by omega
      go_wp2_with fail
      go_quiet (fail)
      go_wp2_with fail
      (first | go_end0 | refine bodyPost_ret (results_none (by kernel_rfl) _ _ _) rfl ?_)
      rw [HA'.out, HF'.out] at HFIN ⊢
      refine ⟨rfl, HFIN.out _ (by (repeat (first | with_reducible (first | exact Mod.refl _ _ | apply Mod.drewN | apply Mod.drew | apply Mod.alloc | refine Mod.setCell ?_ ?_ _ | refine Mod.put ?_ ?_ _) | focus (simp; done) | focus (simp; omega)))) ?_ (HSET.out.done (by omega) (.inl ⟨h0, rfl⟩)) (by omega) (.inl rfl)⟩
      rw [if_neg (by omega), show ((0 : Nat) : Int) = 0 from rfl]
      unfold Has at hB
      unfold takerO fnWord
      first | (focus (simp (disch := first | omega | (simp; done) | (simp; omega)) only [Has, heapRules, hB]; first | done | with_reducible rfl)) | (rw [show ((a + 1 : Nat) : Int) = (a : Int) + 1 by omega]; focus (simp (disch := first | omega | (simp; done) | (simp; omega)) only [Has, heapRules, hB]; first | done | with_reducible rfl))
    · obtain rfl : a = 3 := by omega
      go_wp2_with fail
      go_quiet (fail)
      go_wp2_with fail
      (first | go_end0 | refine bodyPost_ret (results_none (by kernel_rfl) _ _ _) rfl ?_)
      rw [HA'.out, HF'.out] at HFIN ⊢
      refine ⟨rfl, HFIN.out _ (by (repeat (first | with_reducible (first | exact Mod.refl _ _ | apply Mod.drewN | apply Mod.drew | apply Mod.alloc | refine Mod.setCell ?_ ?_ _ | refine Mod.put ?_ ?_ _) | focus (simp; done) | focus (simp; omega)))) ?_ (HSET.out.done (by omega) (.inl ⟨h0, rfl⟩)) (by omega) (.inl rfl)⟩
      rw [if_pos rfl, show ((0 : Nat) : Int) = 0 from rfl]
      unfold Has at hB
      unfold takerO
      first | (focus (simp (disch := first | omega | (simp; done) | (simp; omega)) only [Has, heapRules, hB]; first | done | with_reducible rfl)) | (rw [show ((3 + 1 : Nat) : Int) = 4 from rfl]; focus (simp (disch := first | omega | (simp; done) | (simp; omega)) only [Has, heapRules, hB]; first | done | with_reducible rfl))
  · subst hf0
    have HA' := Lib.hid ha'
    have HF' := Lib.hid hf'
    clear ha' hf'
    rcases Nat.lt_or_ge a 3 with ha3 | ha3
    · have ha3' : (a : Int) < 3 := by omega
      have ha4 : ¬ ((a : Int) + 1 = 4) := by omega
      go_wp2_with fail
      go_quiet (fail)
      go_wp2_with fail
      (first | go_end0 | refine bodyPost_ret (results_none (by kernel_rfl) _ _ _) rfl ?_)
      rw [HA'.out, HF'.out] at HFIN ⊢
      refine ⟨rfl, HFIN.out _ (by (repeat (first | with_reducible (first | exact Mod.refl _ _ | apply Mod.drewN | apply Mod.drew | apply Mod.alloc | refine Mod.setCell ?_ ?_ _ | refine Mod.put ?_ ?_ _) | focus (simp; done) | focus (simp; omega)))) ?_ (HSET.out.done (by omega) (.inr ⟨h0, rfl⟩)) (by omega) (.inl rfl)⟩
      rw [if_neg (by omega), show ((0 : Nat) : Int) = 0 from rfl]
      unfold Has at hB
      unfold takerO fnWord
      first | (focus (simp (disch := first | omega | (simp; done) | (simp; omega)) only [Has, heapRules, hB]; first | done | with_reducible rfl)) | (rw [show ((a + 1 : Nat) : Int) = (a : Int) + 1 by omega]; focus (simp (disch := first | omega | (simp; done) | (simp; omega)) only [Has, heapRules, hB]; first | done | with_reducible rfl))
    · obtain rfl : a = 3 := by omega
      go_wp2_with fail
      go_quiet (fail)
      go_wp2_with fail
      (first | go_end0 | refine bodyPost_ret (results_none (by kernel_rfl) _ _ _) rfl ?_)
      rw [HA'.out, HF'.out] at HFIN ⊢
      refine ⟨rfl, HFIN.out _ (by (repeat (first | with_reducible (first | exact Mod.refl _ _ | apply Mod.drewN | apply Mod.drew | apply Mod.alloc | refine Mod.setCell ?_ ?_ _ | refine Mod.put ?_ ?_ _) | focus (simp; done) | focus (simp; omega)))) ?_ (HSET.out.done (by omega) (.inr ⟨h0, rfl⟩)) (by omega) (.inl rfl)⟩
      rw [if_pos rfl, show ((0 : Nat) : Int) = 0 from rfl]
      unfold Has at hB
      unfold takerO
      first | (focus (simp (disch := first | omega | (simp; done) | (simp; omega)) only [Has, heapRules, hB]; first | done | with_reducible rfl)) | (rw [show ((3 + 1 : Nat) : Int) = 4 from rfl]; focus (simp (disch := first | omega | (simp; done) | (simp; omega)) only [Has, heapRules, hB]; first | done | with_reducible rfl))
  · have HA' := Lib.hid ha'
    have HF' := Lib.hid hf'
    clear ha' hf'
    have hfi9 : (f : Int) < 9 := by omega
    have hf19 : ((f : Int) + 1 == 10) = false := by simp; omega
    have ha44 : ((a : Int) == 4) = false := by simp; omega
    have h0b : (σ.g 8 a 0 == 0) = false := by simpa using h0
    go_wp2_with fail
    go_quiet (fail)
    go_wp2_with fail
    (first | go_end0 | refine bodyPost_ret (results_none (by kernel_rfl) _ _ _) rfl ?_)
    rw [HA'.out, HF'.out] at HFIN ⊢
    refine ⟨rfl, HFIN.out _ (by (repeat (first | with_reducible (first | exact Mod.refl _ _ | apply Mod.drewN | apply Mod.drew | apply Mod.alloc | refine Mod.setCell ?_ ?_ _ | refine Mod.put ?_ ?_ _) | focus (simp; done) | focus (simp; omega)))) ?_ HSET.out (by omega) (.inr ⟨by omega, by omega, h0⟩)⟩
    rw [if_neg (by omega), show ((f + 1 : Nat) : Int) = (f : Int) + 1 by omega]
    unfold Has at hB
    unfold takerO fnWord
    focus (simp (disch := first | omega | (simp; done) | (simp; omega)) only [Has, heapRules, hB]; first | done | with_reducible rfl)

end Go.Proofs.Ytlecajmnmhpjkaa
