/- The shared memory: what its functions do, said of an abstract memory. -/
import Derived.Test.YtghkdkdlbkmicaaDoorMaps
namespace Go.Proofs.YtghkdkdlbkmicaaDoor
open Go.RowKit

def roomAt (k : Int) : Int :=
  if k == 0 then 1 else if k == 1 then 1 else if k == 2 then 1 else if k == 3 then 1 else if k == 4 then 1 else if k == 5 then 1 else if k == 6 then 32 else if k == 7 then 4 else if k == 8 then 16 else if k == 9 then 256 else if k == 10 then 9 else if k == 11 then 1 else 0
def roomF (k : Int) : Int :=
  if k == 0 then 1 else if k == 1 then 1 else if k == 2 then 1 else if k == 3 then 1 else if k == 4 then 1 else if k == 5 then 1 else if k == 6 then 2 else if k == 7 then 1 else if k == 8 then 10 else if k == 9 then 8 else if k == 10 then 1 else if k == 11 then 2 else 0
def mayA (k a f : Int) : Bool := decide (0 ≤ a) && decide (a < roomAt k) && decide (0 ≤ f) && decide (f < roomF k)

set_option maxHeartbeats 1000000 in
theorem rooms_any (k : Int) (w : World) :
    Calls Tryd.prog 134 #[.int .u8 k] w fun e w' => e = .returned (.agg #[.int .i64 (roomAt k), .int .i64 (roomF k)]) ∧ Mod w w' [] := by
  go_enter Tryd.func134, Tryd.ntmps134
  go_wp2
  all_goals
    refine bodyPost_ret (v := .agg #[.int .i64 (roomAt k), .int .i64 (roomF k)]) ?_ rfl ⟨rfl, ?_⟩
    · simp [results, Tryd.results134, go_sem, roomAt, roomF, *]
    · exact (Mod.refl _ _).alloc _

set_option maxHeartbeats 1000000 in
theorem may_any (k a f : Int) (w : World) :
    Calls Tryd.prog 87 #[K k a f] w fun e w' => e = .returned (.bool (mayA k a f)) ∧ Mod w w' [] := by
  unfold K
  go_enter Tryd.func87, Tryd.ntmps87
  go_wp2_with (go_at_call 134; refine (rooms_any _ _).mono ?_; rintro e w1 ⟨rfl, hm⟩; have q := (Has.new _ _).mod hm (by simp); have c0 := q.cell 0; have c1 := q.cell 1; have c2 := q.cell 2; have hl := q.lt)
  all_goals
    go_ret
    refine ⟨?_, (((Mod.refl _ _).alloc _).call hm (by simp)).alloc _⟩
    simp [mayA, *]
    try omega

structure Acc where
  kind : Int
  k : Int
  a : Int
  f : Int
  was : Int
  now : Int
  done : Bool

/-- A memory: its words, how many steps there were, the last one. -/
structure MS where
  g : Int → Int → Int → Int
  steps : Int
  last : Acc

def memCells (mb : Nat) (steps : Int) (l : Acc) : Array Value :=
  #[.map (some mb), .int .i64 steps, .int .u8 l.kind, .int .u8 l.k, .int .i64 l.a, .int .i64 l.f, .int .u64 l.was, .int .u64 l.now, .bool l.done]

/-- The memory m, with the map mb, reads as σ. -/
structure MemAt (w : World) (m mb : Nat) (σ : MS) : Prop where
  ne : m ≠ mb
  cells : Has w m (.cells (memCells mb σ.steps σ.last) 122)
  map : ∃ L clock, Has w mb (.map (entsOf L) clock) ∧ Born L clock ∧ ∀ k a f, σ.g k a f = lookE L k a f
  range : ∀ k a f, 0 ≤ σ.g k a f ∧ σ.g k a f < 18446744073709551616

def MS.new : MS := ⟨fun _ _ _ => 0, 0, ⟨0, 0, 0, 0, 0, 0, false⟩⟩
def MS.step (σ : MS) : Int := wrap64 (σ.steps + 1)
def MS.load (σ : MS) (k a f : Int) : MS := { σ with steps := σ.step, last := ⟨1, k, a, f, σ.g k a f, σ.g k a f, false⟩ }
def MS.put (σ : MS) (k a f v : Int) : Int → Int → Int → Int := fun k' a' f' => if k' = k ∧ a' = a ∧ f' = f then v else σ.g k' a' f'
def MS.store (σ : MS) (k a f v : Int) : MS :=
  if mayA k a f = true then ⟨σ.put k a f v, σ.step, ⟨2, k, a, f, σ.g k a f, v, false⟩⟩ else { σ with steps := σ.step, last := ⟨2, k, a, f, σ.g k a f, σ.g k a f, false⟩ }
def MS.cas (σ : MS) (k a f o n : Int) : MS :=
  if (σ.g k a f == o) = true ∧ mayA k a f = true then ⟨σ.put k a f n, σ.step, ⟨3, k, a, f, σ.g k a f, n, true⟩⟩ else { σ with steps := σ.step, last := ⟨3, k, a, f, σ.g k a f, σ.g k a f, false⟩ }
def MS.casOk (σ : MS) (k a f o : Int) : Bool := (σ.g k a f == o) && mayA k a f

set_option maxHeartbeats 1000000 in
theorem new_any (w : World) : Calls Tryd.prog 19 #[] w fun e w' => ∃ m mb, e = .returned (.pointer (some ⟨m, 0, none⟩)) ∧ w.heap.size ≤ m ∧ w.heap.size ≤ mb ∧ Mod w w' [] ∧ MemAt w' m mb MS.new := by
  have hmm := @run_makeMap Tryd.prog
  go_enter Tryd.func19, Tryd.ntmps19
  go_wp2
  go_ret
  have hm := (Has.new w (.map #[] 0)).alloc (.cells (memCells w.heap.size 0 ⟨0, 0, 0, 0, 0, 0, false⟩) 122)
  have hc := Has.new (w.alloc (.map #[] 0)) (.cells (memCells w.heap.size 0 ⟨0, 0, 0, 0, 0, 0, false⟩) 122)
  refine ⟨w.heap.size + 1, w.heap.size, rfl, by omega, by omega, ((Mod.refl _ _).alloc _).alloc _, ⟨by omega, ?_, ⟨[], 0, hm, ⟨by simp, by simp⟩, fun _ _ _ => rfl⟩, fun _ _ _ => ⟨by simp [MS.new], by simp [MS.new]⟩⟩⟩
  simpa [memCells, MS.new] using hc

section
variable {w : World} {m mb : Nat} {σ : MS} (h : MemAt w m mb σ)
include h
theorem MemAt.c0 : w.cell? ⟨m, 0, none⟩ = some (.map (some mb)) := by simpa [memCells] using h.cells.cell 0
theorem MemAt.c1 : w.cell? ⟨m, 1, none⟩ = some (.int .i64 σ.steps) := by simpa [memCells] using h.cells.cell 1
theorem MemAt.c2 : w.cell? ⟨m, 2, none⟩ = some (.int .u8 σ.last.kind) := by simpa [memCells] using h.cells.cell 2
theorem MemAt.c3 : w.cell? ⟨m, 3, none⟩ = some (.int .u8 σ.last.k) := by simpa [memCells] using h.cells.cell 3
theorem MemAt.c4 : w.cell? ⟨m, 4, none⟩ = some (.int .i64 σ.last.a) := by simpa [memCells] using h.cells.cell 4
theorem MemAt.c5 : w.cell? ⟨m, 5, none⟩ = some (.int .i64 σ.last.f) := by simpa [memCells] using h.cells.cell 5
theorem MemAt.c6 : w.cell? ⟨m, 6, none⟩ = some (.int .u64 σ.last.was) := by simpa [memCells] using h.cells.cell 6
theorem MemAt.c7 : w.cell? ⟨m, 7, none⟩ = some (.int .u64 σ.last.now) := by simpa [memCells] using h.cells.cell 7
theorem MemAt.c8 : w.cell? ⟨m, 8, none⟩ = some (.bool σ.last.done) := by simpa [memCells] using h.cells.cell 8
theorem MemAt.fz (i : Nat) : w.frozen? ⟨m, i, none⟩ = false := h.cells.frozen i
theorem MemAt.lt : m < w.heap.size := h.cells.lt
theorem MemAt.ltb : mb < w.heap.size := by
  obtain ⟨L, c, hb, _⟩ := h.map
  exact hb.lt
theorem MemAt.mod {w' : World} {S : List Nat} (hm : Mod w w' S) (h1 : m ∉ S) (h2 : mb ∉ S) : MemAt w' m mb σ := by
  obtain ⟨L, c, hb, hB, hg⟩ := h.map
  exact ⟨h.ne, h.cells.mod hm h1, ⟨L, c, hb.mod hm h2, hB, hg⟩, h.range⟩
theorem MemAt.look (k a f : Int) : (Instr.lookup 120 (.map (some mb)) (K k a f) false).run Tryd.prog w = .ok (.int .u64 (σ.g k a f)) w := by
  obtain ⟨L, c, hb, hB, hg⟩ := h.map
  rw [hg]
  exact run_lookup_K hb k a f
end

theorem there_any (w : World) (m mb : Nat) (σ : MS) (h : MemAt w m mb σ) :
    Calls Tryd.prog 86 #[.pointer (some ⟨m, 0, none⟩)] w fun e w' => e = .returned (.bool true) ∧ w = w' := by
  have c0 := h.c0
  have e1 := fun (w : World) (r : Option Nat) => run_neq_map_nil (P := Tryd.prog) w _ _ _ r Tryd.underlying120
  go_enter Tryd.func86, Tryd.ntmps86
  go_wp2
  go_ret
  exact ⟨rfl, rfl⟩

set_option maxHeartbeats 1000000 in
theorem step_load (w : World) (m mb : Nat) (σ : MS) (h : MemAt w m mb σ) (k a f : Int) :
    Calls Tryd.prog 46 #[.pointer (some ⟨m, 0, none⟩), .int .u8 1, K k a f, .func (.func 50) #[] #[]] w fun e w' =>
      e = .returned (.agg #[.int .u8 1, .int .u8 k, .int .i64 a, .int .i64 f, .int .u64 (σ.g k a f), .int .u64 (σ.g k a f), .bool false]) ∧ Mod w w' [m] ∧ MemAt w' m mb (σ.load k a f) := by
  have c0 := h.c0
  have c1 := h.c1
  have c2 := h.c2
  have c3 := h.c3
  have c4 := h.c4
  have c5 := h.c5
  have c6 := h.c6
  have c7 := h.c7
  have c8 := h.c8
  have fz := h.fz
  have hl := h.lt
  have hlb := h.ltb
  have hlb1 : mb < w.heap.size + 1 := by omega
  have hlb2 : mb < w.heap.size + 1 + 1 := by omega
  have hne := h.ne
  obtain ⟨L, c, hb, hB, hg0⟩ := h.map
  have hg := Lib.hid hg0
  clear hg0
  have hlk : ∀ W, Has W mb (.map (entsOf L) c) → (Instr.lookup 120 (.map (some mb)) (K k a f) false).run Tryd.prog W = .ok (.int .u64 (σ.g k a f)) W := fun W hW => by
    rw [hg.out]
    exact run_lookup_K hW k a f
  unfold K at hlk ⊢
  go_enter Tryd.func46, Tryd.ntmps46
  go_wp2_with fail
  refine (there_any _ _ _ _ ((h.mod (((Mod.refl w []).alloc _).alloc _) (by simp) (by simp)))).mono ?_
  rintro e w1 ⟨rfl, rfl⟩
  go_wp2
  go_quiet (fail)
  go_upto_region 6 with (fail)
  generalize hW : World.setCell _ ⟨m, 8, none⟩ _ = W
  have w1 : Has W m (.cells (memCells mb σ.step ⟨1, k, a, f, σ.g k a f, σ.g k a f, false⟩) 122) := by
    rw [← hW]
    have hc := h.cells
    unfold Has at hc
    focus (simp (disch := first | omega | (simp; done) | (simp; omega)) only [Has, heapRules, hc, memCells, MS.step]; first | done | with_reducible rfl)
  have w2 : Has W mb (.map (entsOf L) c) := by
    rw [← hW]
    unfold Has at hb
    focus (simp (disch := first | omega | (simp; done) | (simp; omega)) only [Has, heapRules, hb]; first | done | with_reducible rfl)
  have w3 : Has W (w.heap.size + 1) (.cells #[.int .u8 0, .int .u8 0, .int .i64 0, .int .i64 0, .int .u64 0, .int .u64 0, .bool false] 109) := by
    rw [← hW]
    focus (simp (disch := first | omega | (simp; done) | (simp; omega)) only [Has, heapRules]; first | done | with_reducible rfl)
  have w4 : Mod w W [m] := by
    rw [← hW]
    (repeat (first | with_reducible (first | exact Mod.refl _ _ | apply Mod.drewN | apply Mod.drew | apply Mod.alloc | refine Mod.setCell ?_ ?_ _ | refine Mod.put ?_ ?_ _) | focus (simp; done) | focus (simp; omega)))
  clear hW c0 c1 c2 c3 c4 c5 c6 c7 c8 fz hlk hl hlb hlb1 hlb2
  have d2 := w1.cell 2
  have d3 := w1.cell 3
  have d4 := w1.cell 4
  have d5 := w1.cell 5
  have d6 := w1.cell 6
  have d7 := w1.cell 7
  have d8 := w1.cell 8
  simp only [memCells, List.getElem?_toArray, List.getElem?_cons_succ, List.getElem?_cons_zero] at d2 d3 d4 d5 d6 d7 d8
  have e0 := w3.cell 0
  have e1 := w3.cell 1
  have e2 := w3.cell 2
  have e3 := w3.cell 3
  have e4 := w3.cell 4
  have e5 := w3.cell 5
  have e6 := w3.cell 6
  have fz := w3.frozen
  go_wp2
  refine bodyPost_ret (v := .agg #[.int .u8 1, .int .u8 k, .int .i64 a, .int .i64 f, .int .u64 (σ.g k a f), .int .u64 (σ.g k a f), .bool false]) ?_ rfl ?_
  · simp [results, Tryd.results46, go_sem, *]
  · refine ⟨rfl, ?_, ⟨h.ne, ?_, ⟨L, c, ?_, hB, hg.out⟩, h.range⟩⟩
    · (repeat (first | with_reducible (first | exact w4 | exact Mod.refl _ _ | apply Mod.drewN | apply Mod.drew | apply Mod.alloc | refine Mod.setCell ?_ ?_ _ | refine Mod.put ?_ ?_ _ | refine Mod.call ?_ w4 ?_) | focus (simp; done) | focus (simp; omega)))
    · have hl := h.lt
      unfold Has at w1
      focus (simp (disch := first | omega | (simp; done) | (simp; omega)) only [Has, heapRules, w1, memCells, MS.load]; first | done | with_reducible rfl)
    · have hl := h.ltb
      unfold Has at w2
      focus (simp (disch := first | omega | (simp; done) | (simp; omega)) only [Has, heapRules, w2]; first | done | with_reducible rfl)

set_option maxHeartbeats 1000000 in
theorem step_store (w : World) (m mb vb : Nat) (σ : MS) (h : MemAt w m mb σ) (k a f v : Int) (hv0 : 0 ≤ v) (hv1 : v < 18446744073709551616) (hv : Has w vb (.cells #[.int .u64 v] 24)) (n1 : vb ≠ m) (n2 : vb ≠ mb) (hmay : mayA k a f = true) :
    Calls Tryd.prog 46 #[.pointer (some ⟨m, 0, none⟩), .int .u8 2, K k a f, .func (.func 47) #[] #[.pointer (some ⟨vb, 0, none⟩)]] w fun e w' =>
      e = .returned (.agg #[.int .u8 2, .int .u8 k, .int .i64 a, .int .i64 f, .int .u64 (σ.g k a f), .int .u64 v, .bool false]) ∧ Mod w w' [m, mb] ∧ MemAt w' m mb (σ.store k a f v) := by
  have c0 := h.c0
  have c1 := h.c1
  have c2 := h.c2
  have c3 := h.c3
  have c4 := h.c4
  have c5 := h.c5
  have c6 := h.c6
  have c7 := h.c7
  have c8 := h.c8
  have fz := h.fz
  have hl := h.lt
  have hlb := h.ltb
  have hlb1 : mb < w.heap.size + 1 := by omega
  have hlb2 : mb < w.heap.size + 1 + 1 := by omega
  have hne := h.ne
  obtain ⟨L, c, hb, hB, hg0⟩ := h.map
  have hg := Lib.hid hg0
  clear hg0
  have hlk : ∀ W, Has W mb (.map (entsOf L) c) → (Instr.lookup 120 (.map (some mb)) (K k a f) false).run Tryd.prog W = .ok (.int .u64 (σ.g k a f)) W := fun W hW => by
    rw [hg.out]
    exact run_lookup_K hW k a f
  unfold K at hlk ⊢
  go_enter Tryd.func46, Tryd.ntmps46
  go_wp2_with fail
  refine (there_any _ _ _ _ ((h.mod (((Mod.refl w []).alloc _).alloc _) (by simp) (by simp)))).mono ?_
  rintro e w1 ⟨rfl, rfl⟩
  go_wp2
  go_quiet (fail)
  go_upto_region 6 with (fail)
  generalize hW : World.setCell _ ⟨m, 8, none⟩ _ = W
  have w1 : Has W m (.cells (memCells mb σ.step ⟨2, k, a, f, σ.g k a f, σ.g k a f, false⟩) 122) := by
    rw [← hW]
    have hc := h.cells
    unfold Has at hc
    focus (simp (disch := first | omega | (simp; done) | (simp; omega)) only [Has, heapRules, hc, memCells, MS.step]; first | done | with_reducible rfl)
  have w2 : Has W mb (.map (entsOf L) c) := by
    rw [← hW]
    unfold Has at hb
    focus (simp (disch := first | omega | (simp; done) | (simp; omega)) only [Has, heapRules, hb]; first | done | with_reducible rfl)
  have w3 : Has W (w.heap.size + 1) (.cells #[.int .u8 0, .int .u8 0, .int .i64 0, .int .i64 0, .int .u64 0, .int .u64 0, .bool false] 109) := by
    rw [← hW]
    focus (simp (disch := first | omega | (simp; done) | (simp; omega)) only [Has, heapRules]; first | done | with_reducible rfl)
  have w4 : Mod w W [m] := by
    rw [← hW]
    (repeat (first | with_reducible (first | exact Mod.refl _ _ | apply Mod.drewN | apply Mod.drew | apply Mod.alloc | refine Mod.setCell ?_ ?_ _ | refine Mod.put ?_ ?_ _) | focus (simp; done) | focus (simp; omega)))
  have w5 : Has W w.heap.size (.cells #[.int .u8 k, .int .i64 a, .int .i64 f] 31) := by
    rw [← hW]
    focus (simp (disch := first | omega | (simp; done) | (simp; omega)) only [Has, heapRules]; first | done | with_reducible rfl)
  have w6 : Has W vb (.cells #[.int .u64 v] 24) := by
    have := hv.lt
    rw [← hW]
    unfold Has at hv
    focus (simp (disch := first | omega | (simp; done) | (simp; omega)) only [Has, heapRules, hv]; first | done | with_reducible rfl)
  have hz1 := h.lt
  have hz2 := h.ltb
  have hz3 := w3.lt
  clear hW c0 c1 c2 c3 c4 c5 c6 c7 c8 fz hlk
  have c_w5_0 := w5.cell 0; have c_w5_1 := w5.cell 1; have c_w5_2 := w5.cell 2; simp only [getRules] at c_w5_0 c_w5_1 c_w5_2
  have c_w6_0 := w6.cell 0; simp only [getRules] at c_w6_0
  have hme : ∀ W, Has W mb (.map (entsOf L) c) → (Instr.mapEntry 120 (.map (some mb)) (.agg #[.int .u8 k, .int .i64 a, .int .i64 f])).run Tryd.prog W =
      .ok (.tuple #[.int .u64 (lookE L k a f), .int .i64 (stampE L c k a f)]) (putObj W mb (.map (entsOf (madeE L c k a f)) (madeC L c k a f))) := fun W hW => run_mapEntry_K hW k a f
  have hes : ∀ W, Has W mb (.map (entsOf (madeE L c k a f)) (madeC L c k a f)) → (Instr.entryStore 120 (.map (some mb)) (.int .i64 (stampE L c k a f)) (.int .u64 v)).run Tryd.prog W =
      .ok () (putObj W mb (.map (entsOf (setE (madeE L c k a f) (stampE L c k a f) v)) (madeC L c k a f))) := fun W hW => by
    obtain ⟨x, hx, _, hb, _⟩ := made_mem (L := L) (clock := c) k a f
    rw [← hb]
    exact run_entryStore_K hW (madeE_born hB k a f) hx v
  go_wp2_with (first | (go_at_call 87; go_must (refine (may_any k a f _).mono ?_; rintro e W2 ⟨rfl, hm⟩; clear c_w5_0 c_w5_1 c_w5_2 c_w6_0; replace w1 := w1.mod hm (by first | (simp; done) | (simp; omega)); replace w2 := w2.mod hm (by first | (simp; done) | (simp; omega)); replace w3 := w3.mod hm (by first | (simp; done) | (simp; omega)); replace w5 := w5.mod hm (by first | (simp; done) | (simp; omega)); simp only [memCells] at w1; have c_w1_0 := w1.cell 0; have c_w1_2 := w1.cell 2; have c_w1_3 := w1.cell 3; have c_w1_4 := w1.cell 4; have c_w1_5 := w1.cell 5; have c_w1_6 := w1.cell 6; have c_w1_7 := w1.cell 7; have c_w1_8 := w1.cell 8; simp only [getRules] at c_w1_0 c_w1_2 c_w1_3 c_w1_4 c_w1_5 c_w1_6 c_w1_7 c_w1_8; have c_w3_0 := w3.cell 0; have c_w3_1 := w3.cell 1; have c_w3_2 := w3.cell 2; have c_w3_3 := w3.cell 3; have c_w3_4 := w3.cell 4; have c_w3_5 := w3.cell 5; have c_w3_6 := w3.cell 6; simp only [getRules] at c_w3_0 c_w3_1 c_w3_2 c_w3_3 c_w3_4 c_w3_5 c_w3_6; have c_w5_0 := w5.cell 0; have c_w5_1 := w5.cell 1; have c_w5_2 := w5.cell 2; simp only [getRules] at c_w5_0 c_w5_1 c_w5_2; have fz := w1.frozen; have fz3 := w3.frozen; have hl1 := w1.lt; have hl2 := w2.lt; have hl3 := w3.lt)) | (go_at_call 47; go_in))
  go_region
  have q1 : w.heap.size + 1 ≠ mb := by omega
  have q2 : w.heap.size + 1 ≠ m := by omega
  have q3 : m ≠ w.heap.size + 1 := by omega
  go_wp2
  refine bodyPost_ret (v := .agg #[.int .u8 2, .int .u8 k, .int .i64 a, .int .i64 f, .int .u64 (σ.g k a f), .int .u64 v, .bool false]) ?_ rfl ?_
  · simp [results, Tryd.results46, go_sem, *]
  · refine ⟨rfl, ?_, ?_⟩
    · (repeat (first | with_reducible (first | exact w4 | exact hm | exact Mod.refl _ _ | apply Mod.drewN | apply Mod.drew | apply Mod.alloc | refine Mod.setCell ?_ ?_ _ | refine Mod.put ?_ ?_ _ | refine Mod.call ?_ w4 ?_ | refine Mod.call ?_ hm ?_) | focus (simp; done) | focus (simp; omega)))
    · unfold MS.store
      rw [if_pos hmay]
      refine ⟨h.ne, ?_, ⟨setE (madeE L c k a f) (stampE L c k a f) v, madeC L c k a f, ?_, setE_born (madeE_born hB k a f) _ _, fun k' a' f' => ?_⟩, fun k' a' f' => ?_⟩
      · unfold Has at w1
        focus (simp (disch := first | omega | (simp; done) | (simp; omega)) only [Has, heapRules, w1, memCells]; first | done | with_reducible rfl)
      · focus (simp (disch := first | omega | (simp; done) | (simp; omega)) only [Has, heapRules]; first | done | with_reducible rfl)
      · rw [look_stored hB]
        simp only [MS.put, hg.out]
      · simp only [MS.put]
        split
        · exact ⟨hv0, hv1⟩
        · exact h.range _ _ _


set_option maxHeartbeats 1000000 in
theorem cas1_any (w : World) (ib wb : Nat) (x n o : Int) (hi : Has w ib (.cells #[.int .u64 n] 24)) (hw : Has w wb (.cells #[.int .u64 o] 24)) :
    Calls Tryd.prog 157 #[.int .u64 x, .pointer (some ⟨ib, 0, none⟩), .pointer (some ⟨wb, 0, none⟩)] w fun e w' =>
      e = .returned (.tuple #[.int .u64 n, .bool (x == o)]) ∧ ∃ q, w' = w.drewN q := by
  have c_hi_0 := hi.cell 0; simp only [getRules] at c_hi_0
  have c_hw_0 := hw.cell 0; simp only [getRules] at c_hw_0
  go_enter Tryd.func157, Tryd.ntmps157
  go_wp2
  go_quiet (fail)
  go_wp2
  go_ret2
  exact ⟨rfl, _, rfl⟩

set_option maxHeartbeats 1000000 in
theorem step_cas_yes (w : World) (m mb ib wb : Nat) (σ : MS) (h : MemAt w m mb σ) (k a f o n : Int) (hv0 : 0 ≤ n) (hv1 : n < 18446744073709551616) (hi : Has w ib (.cells #[.int .u64 n] 24)) (hw : Has w wb (.cells #[.int .u64 o] 24)) (n1 : ib ≠ m) (n2 : ib ≠ mb) (n3 : wb ≠ m) (n4 : wb ≠ mb) (hco : (σ.g k a f == o) = true) (hmay : mayA k a f = true) :
    Calls Tryd.prog 46 #[.pointer (some ⟨m, 0, none⟩), .int .u8 3, K k a f, .func (.func 157) #[] #[.pointer (some ⟨ib, 0, none⟩), .pointer (some ⟨wb, 0, none⟩)]] w fun e w' =>
      e = .returned (.agg #[.int .u8 3, .int .u8 k, .int .i64 a, .int .i64 f, .int .u64 (σ.g k a f), .int .u64 n, .bool true]) ∧ Mod w w' [m, mb] ∧ MemAt w' m mb (σ.cas k a f o n) := by
  have c0 := h.c0
  have c1 := h.c1
  have c2 := h.c2
  have c3 := h.c3
  have c4 := h.c4
  have c5 := h.c5
  have c6 := h.c6
  have c7 := h.c7
  have c8 := h.c8
  have fz := h.fz
  have hl := h.lt
  have hlb := h.ltb
  have hlb1 : mb < w.heap.size + 1 := by omega
  have hlb2 : mb < w.heap.size + 1 + 1 := by omega
  have hne := h.ne
  obtain ⟨L, c, hb, hB, hg0⟩ := h.map
  have hg := Lib.hid hg0
  clear hg0
  have hlk : ∀ W, Has W mb (.map (entsOf L) c) → (Instr.lookup 120 (.map (some mb)) (K k a f) false).run Tryd.prog W = .ok (.int .u64 (σ.g k a f)) W := fun W hW => by
    rw [hg.out]
    exact run_lookup_K hW k a f
  unfold K at hlk ⊢
  go_enter Tryd.func46, Tryd.ntmps46
  go_wp2_with fail
  refine (there_any _ _ _ _ ((h.mod (((Mod.refl w []).alloc _).alloc _) (by simp) (by simp)))).mono ?_
  rintro e w1 ⟨rfl, rfl⟩
  go_wp2
  go_quiet (fail)
  go_upto_region 6 with (fail)
  generalize hW : World.setCell _ ⟨m, 8, none⟩ _ = W
  have w1 : Has W m (.cells (memCells mb σ.step ⟨3, k, a, f, σ.g k a f, σ.g k a f, false⟩) 122) := by
    rw [← hW]
    have hc := h.cells
    unfold Has at hc
    focus (simp (disch := first | omega | (simp; done) | (simp; omega)) only [Has, heapRules, hc, memCells, MS.step]; first | done | with_reducible rfl)
  have w2 : Has W mb (.map (entsOf L) c) := by
    rw [← hW]
    unfold Has at hb
    focus (simp (disch := first | omega | (simp; done) | (simp; omega)) only [Has, heapRules, hb]; first | done | with_reducible rfl)
  have w3 : Has W (w.heap.size + 1) (.cells #[.int .u8 0, .int .u8 0, .int .i64 0, .int .i64 0, .int .u64 0, .int .u64 0, .bool false] 109) := by
    rw [← hW]
    focus (simp (disch := first | omega | (simp; done) | (simp; omega)) only [Has, heapRules]; first | done | with_reducible rfl)
  have w4 : Mod w W [m] := by
    rw [← hW]
    (repeat (first | with_reducible (first | exact Mod.refl _ _ | apply Mod.drewN | apply Mod.drew | apply Mod.alloc | refine Mod.setCell ?_ ?_ _ | refine Mod.put ?_ ?_ _) | focus (simp; done) | focus (simp; omega)))
  have w5 : Has W w.heap.size (.cells #[.int .u8 k, .int .i64 a, .int .i64 f] 31) := by
    rw [← hW]
    focus (simp (disch := first | omega | (simp; done) | (simp; omega)) only [Has, heapRules]; first | done | with_reducible rfl)
  have w6 : Has W ib (.cells #[.int .u64 n] 24) := by
    have := hi.lt
    rw [← hW]
    unfold Has at hi
    focus (simp (disch := first | omega | (simp; done) | (simp; omega)) only [Has, heapRules, hi]; first | done | with_reducible rfl)
  have w7 : Has W wb (.cells #[.int .u64 o] 24) := by
    have := hw.lt
    rw [← hW]
    unfold Has at hw
    focus (simp (disch := first | omega | (simp; done) | (simp; omega)) only [Has, heapRules, hw]; first | done | with_reducible rfl)
  have hz1 := h.lt
  have hz2 := h.ltb
  have hz3 := w3.lt
  clear hW c0 c1 c2 c3 c4 c5 c6 c7 c8 fz hlk
  have c_w5_0 := w5.cell 0; have c_w5_1 := w5.cell 1; have c_w5_2 := w5.cell 2; simp only [getRules] at c_w5_0 c_w5_1 c_w5_2
  have hme : ∀ W, Has W mb (.map (entsOf L) c) → (Instr.mapEntry 120 (.map (some mb)) (.agg #[.int .u8 k, .int .i64 a, .int .i64 f])).run Tryd.prog W =
      .ok (.tuple #[.int .u64 (lookE L k a f), .int .i64 (stampE L c k a f)]) (putObj W mb (.map (entsOf (madeE L c k a f)) (madeC L c k a f))) := fun W hW => run_mapEntry_K hW k a f
  have hes : ∀ W, Has W mb (.map (entsOf (madeE L c k a f)) (madeC L c k a f)) → (Instr.entryStore 120 (.map (some mb)) (.int .i64 (stampE L c k a f)) (.int .u64 n)).run Tryd.prog W =
      .ok () (putObj W mb (.map (entsOf (setE (madeE L c k a f) (stampE L c k a f) n)) (madeC L c k a f))) := fun W hW => by
    obtain ⟨x, hx, _, hb, _⟩ := made_mem (L := L) (clock := c) k a f
    rw [← hb]
    exact run_entryStore_K hW (madeE_born hB k a f) hx n
  go_wp2_with (first | (go_at_call 87; go_must (refine (may_any k a f _).mono ?_; rintro e W2 ⟨rfl, hm⟩; clear c_w5_0 c_w5_1 c_w5_2; replace w1 := w1.mod hm (by first | (simp; done) | (simp; omega)); replace w2 := w2.mod hm (by first | (simp; done) | (simp; omega)); replace w3 := w3.mod hm (by first | (simp; done) | (simp; omega)); replace w5 := w5.mod hm (by first | (simp; done) | (simp; omega)); simp only [memCells] at w1; have c_w1_0 := w1.cell 0; have c_w1_2 := w1.cell 2; have c_w1_3 := w1.cell 3; have c_w1_4 := w1.cell 4; have c_w1_5 := w1.cell 5; have c_w1_6 := w1.cell 6; have c_w1_7 := w1.cell 7; have c_w1_8 := w1.cell 8; simp only [getRules] at c_w1_0 c_w1_2 c_w1_3 c_w1_4 c_w1_5 c_w1_6 c_w1_7 c_w1_8; have c_w3_0 := w3.cell 0; have c_w3_1 := w3.cell 1; have c_w3_2 := w3.cell 2; have c_w3_3 := w3.cell 3; have c_w3_4 := w3.cell 4; have c_w3_5 := w3.cell 5; have c_w3_6 := w3.cell 6; simp only [getRules] at c_w3_0 c_w3_1 c_w3_2 c_w3_3 c_w3_4 c_w3_5 c_w3_6; have c_w5_0 := w5.cell 0; have c_w5_1 := w5.cell 1; have c_w5_2 := w5.cell 2; simp only [getRules] at c_w5_0 c_w5_1 c_w5_2; have fz := w1.frozen; have fz3 := w3.frozen; have hl1 := w1.lt; have hl2 := w2.lt; have hl3 := w3.lt)) | (go_at_call 157; go_must (refine (cas1_any _ ib wb _ n o w6 w7).mono ?_; rintro e _ ⟨rfl, q, rfl⟩; replace w1 := w1.drewN q; replace w2 := w2.drewN q; replace w3 := w3.drewN q; replace w5 := w5.drewN q)))
  go_region
  have q1 : w.heap.size + 1 ≠ mb := by omega
  have q2 : w.heap.size + 1 ≠ m := by omega
  have q3 : m ≠ w.heap.size + 1 := by omega
  go_wp2
  refine bodyPost_ret (v := .agg #[.int .u8 3, .int .u8 k, .int .i64 a, .int .i64 f, .int .u64 (σ.g k a f), .int .u64 n, .bool true]) ?_ rfl ?_
  · simp [results, Tryd.results46, go_sem, *]
  · refine ⟨rfl, ?_, ?_⟩
    · (repeat (first | with_reducible (first | exact w4 | exact hm | exact Mod.refl _ _ | apply Mod.drewN | apply Mod.drew | apply Mod.alloc | refine Mod.setCell ?_ ?_ _ | refine Mod.put ?_ ?_ _ | refine Mod.call ?_ w4 ?_ | refine Mod.call ?_ hm ?_) | focus (simp; done) | focus (simp; omega)))
    · unfold MS.cas
      rw [if_pos ⟨hco, hmay⟩]
      refine ⟨h.ne, ?_, ⟨setE (madeE L c k a f) (stampE L c k a f) n, madeC L c k a f, ?_, setE_born (madeE_born hB k a f) _ _, fun k' a' f' => ?_⟩, fun k' a' f' => ?_⟩
      · unfold Has at w1
        focus (simp (disch := first | omega | (simp; done) | (simp; omega)) only [Has, heapRules, w1, memCells]; first | done | with_reducible rfl)
      · focus (simp (disch := first | omega | (simp; done) | (simp; omega)) only [Has, heapRules]; first | done | with_reducible rfl)
      · rw [look_stored hB]
        simp only [MS.put, hg.out]
      · simp only [MS.put]
        split
        · exact ⟨hv0, hv1⟩
        · exact h.range _ _ _

set_option maxHeartbeats 1000000 in
theorem step_cas_no (w : World) (m mb ib wb : Nat) (σ : MS) (h : MemAt w m mb σ) (k a f o n : Int) (hi : Has w ib (.cells #[.int .u64 n] 24)) (hw : Has w wb (.cells #[.int .u64 o] 24)) (n1 : ib ≠ m) (n2 : ib ≠ mb) (n3 : wb ≠ m) (n4 : wb ≠ mb) (hco : (σ.g k a f == o) = false) :
    Calls Tryd.prog 46 #[.pointer (some ⟨m, 0, none⟩), .int .u8 3, K k a f, .func (.func 157) #[] #[.pointer (some ⟨ib, 0, none⟩), .pointer (some ⟨wb, 0, none⟩)]] w fun e w' =>
      e = .returned (.agg #[.int .u8 3, .int .u8 k, .int .i64 a, .int .i64 f, .int .u64 (σ.g k a f), .int .u64 (σ.g k a f), .bool false]) ∧ Mod w w' [m] ∧ MemAt w' m mb (σ.cas k a f o n) := by
  have c0 := h.c0
  have c1 := h.c1
  have c2 := h.c2
  have c3 := h.c3
  have c4 := h.c4
  have c5 := h.c5
  have c6 := h.c6
  have c7 := h.c7
  have c8 := h.c8
  have fz := h.fz
  have hl := h.lt
  have hlb := h.ltb
  have hlb1 : mb < w.heap.size + 1 := by omega
  have hlb2 : mb < w.heap.size + 1 + 1 := by omega
  have hne := h.ne
  obtain ⟨L, c, hb, hB, hg0⟩ := h.map
  have hg := Lib.hid hg0
  clear hg0
  have hlk : ∀ W, Has W mb (.map (entsOf L) c) → (Instr.lookup 120 (.map (some mb)) (K k a f) false).run Tryd.prog W = .ok (.int .u64 (σ.g k a f)) W := fun W hW => by
    rw [hg.out]
    exact run_lookup_K hW k a f
  unfold K at hlk ⊢
  go_enter Tryd.func46, Tryd.ntmps46
  go_wp2_with fail
  refine (there_any _ _ _ _ ((h.mod (((Mod.refl w []).alloc _).alloc _) (by simp) (by simp)))).mono ?_
  rintro e w1 ⟨rfl, rfl⟩
  go_wp2
  go_quiet (fail)
  go_upto_region 6 with (fail)
  generalize hW : World.setCell _ ⟨m, 8, none⟩ _ = W
  have w1 : Has W m (.cells (memCells mb σ.step ⟨3, k, a, f, σ.g k a f, σ.g k a f, false⟩) 122) := by
    rw [← hW]
    have hc := h.cells
    unfold Has at hc
    focus (simp (disch := first | omega | (simp; done) | (simp; omega)) only [Has, heapRules, hc, memCells, MS.step]; first | done | with_reducible rfl)
  have w2 : Has W mb (.map (entsOf L) c) := by
    rw [← hW]
    unfold Has at hb
    focus (simp (disch := first | omega | (simp; done) | (simp; omega)) only [Has, heapRules, hb]; first | done | with_reducible rfl)
  have w3 : Has W (w.heap.size + 1) (.cells #[.int .u8 0, .int .u8 0, .int .i64 0, .int .i64 0, .int .u64 0, .int .u64 0, .bool false] 109) := by
    rw [← hW]
    focus (simp (disch := first | omega | (simp; done) | (simp; omega)) only [Has, heapRules]; first | done | with_reducible rfl)
  have w4 : Mod w W [m] := by
    rw [← hW]
    (repeat (first | with_reducible (first | exact Mod.refl _ _ | apply Mod.drewN | apply Mod.drew | apply Mod.alloc | refine Mod.setCell ?_ ?_ _ | refine Mod.put ?_ ?_ _) | focus (simp; done) | focus (simp; omega)))
  have w5 : Has W w.heap.size (.cells #[.int .u8 k, .int .i64 a, .int .i64 f] 31) := by
    rw [← hW]
    focus (simp (disch := first | omega | (simp; done) | (simp; omega)) only [Has, heapRules]; first | done | with_reducible rfl)
  have w6 : Has W ib (.cells #[.int .u64 n] 24) := by
    have := hi.lt
    rw [← hW]
    unfold Has at hi
    focus (simp (disch := first | omega | (simp; done) | (simp; omega)) only [Has, heapRules, hi]; first | done | with_reducible rfl)
  have w7 : Has W wb (.cells #[.int .u64 o] 24) := by
    have := hw.lt
    rw [← hW]
    unfold Has at hw
    focus (simp (disch := first | omega | (simp; done) | (simp; omega)) only [Has, heapRules, hw]; first | done | with_reducible rfl)
  have hz1 := h.lt
  have hz2 := h.ltb
  have hz3 := w3.lt
  clear hW c0 c1 c2 c3 c4 c5 c6 c7 c8 fz hlk
  have c_w5_0 := w5.cell 0; have c_w5_1 := w5.cell 1; have c_w5_2 := w5.cell 2; simp only [getRules] at c_w5_0 c_w5_1 c_w5_2
  clear c_w5_0 c_w5_1 c_w5_2
  simp only [memCells] at w1
  have c_w1_2 := w1.cell 2; have c_w1_3 := w1.cell 3; have c_w1_4 := w1.cell 4; have c_w1_5 := w1.cell 5; have c_w1_6 := w1.cell 6; have c_w1_7 := w1.cell 7; have c_w1_8 := w1.cell 8; simp only [getRules] at c_w1_2 c_w1_3 c_w1_4 c_w1_5 c_w1_6 c_w1_7 c_w1_8
  have c_w3_0 := w3.cell 0; have c_w3_1 := w3.cell 1; have c_w3_2 := w3.cell 2; have c_w3_3 := w3.cell 3; have c_w3_4 := w3.cell 4; have c_w3_5 := w3.cell 5; have c_w3_6 := w3.cell 6; simp only [getRules] at c_w3_0 c_w3_1 c_w3_2 c_w3_3 c_w3_4 c_w3_5 c_w3_6
  have fz3 := w3.frozen
  go_wp2_with (first | (go_at_call 157; go_must (refine (cas1_any _ ib wb _ n o w6 w7).mono ?_; rintro e _ ⟨rfl, q, rfl⟩)))
  refine bodyPost_ret (v := .agg #[.int .u8 3, .int .u8 k, .int .i64 a, .int .i64 f, .int .u64 (σ.g k a f), .int .u64 (σ.g k a f), .bool false]) ?_ rfl ?_
  · simp [results, Tryd.results46, go_sem, *]
  · refine ⟨rfl, ?_, ?_⟩
    · (repeat (first | with_reducible (first | exact w4 | exact Mod.refl _ _ | apply Mod.drewN | apply Mod.drew | apply Mod.alloc | refine Mod.setCell ?_ ?_ _ | refine Mod.put ?_ ?_ _ | refine Mod.call ?_ w4 ?_) | focus (simp; done) | focus (simp; omega)))
    · unfold MS.cas
      rw [if_neg (by rw [hco]; simp)]
      refine ⟨h.ne, ?_, ⟨L, c, ?_, hB, hg.out⟩, h.range⟩
      · unfold Has at w1
        focus (simp (disch := first | omega | (simp; done) | (simp; omega)) only [Has, heapRules, w1, memCells]; first | done | with_reducible rfl)
      · unfold Has at w2
        focus (simp (disch := first | omega | (simp; done) | (simp; omega)) only [Has, heapRules, w2]; first | done | with_reducible rfl)

end Go.Proofs.YtghkdkdlbkmicaaDoor
