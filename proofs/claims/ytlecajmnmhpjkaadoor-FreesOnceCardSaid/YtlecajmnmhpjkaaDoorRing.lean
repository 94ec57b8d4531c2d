/- The threads of FreesOnce in their block. -/
import Derived.Test.YtlecajmnmhpjkaaDoorOnceParts
import Derived.Test.YtlecajmnmhpjkaaDoorSpread
namespace Go.Proofs.YtlecajmnmhpjkaaDoor.law07
open Go.RowKit

/-- The threads ts lie in block B, three cells each; what each owns (its row, what is under way) is nobody else's. -/
structure Ring (w0 w : World) (m mb B : Nat) (σ : MS) (ts : List Th) (cs : Array Value) (fp : Nat → Option Nat × Option Nat) : Prop where
  sys : Sys w0 w m mb σ
  has : Has w B (.cells cs 32)
  loB : w0.heap.size ≤ B
  nm : B ≠ m
  nmb : B ≠ mb
  at_ : ∀ i (h : i < ts.length), ∃ hv pv qv, Cells3 cs cs (i * 3) hv pv qv ∧ Lies w (fp i).1 hv ts[i].held ∧ OpAt w (fp i).2 pv qv ts[i].op
  lo : ∀ i b, i < ts.length → (fp i).1 = some b ∨ (fp i).2 = some b → w0.heap.size ≤ b ∧ b ≠ m ∧ b ≠ mb ∧ b ≠ B
  ne : ∀ i b, i < ts.length → (fp i).1 = some b → (fp i).2 ≠ some b
  apart : ∀ i j b, i < ts.length → j < ts.length → i ≠ j → (fp i).1 = some b ∨ (fp i).2 = some b → (fp j).1 ≠ some b ∧ (fp j).2 ≠ some b

theorem opAt_lt {w : World} {o : Option Nat} {pv qv : Value} {x : OpS} (h : OpAt w o pv qv x) {b : Nat} (e : o = some b) : b < w.heap.size := by
  cases x with
  | none =>
    rw [h.1] at e
    cases e
  | pop p =>
    obtain ⟨b', h1, h2, h3, h4⟩ := h
    rw [h1] at e
    cases e
    exact h4.lt
  | push p =>
    obtain ⟨b', h1, h2, h3, h4⟩ := h
    rw [h1] at e
    cases e
    exact h4.lt

theorem Ring.lt {w0 w : World} {m mb B : Nat} {σ : MS} {ts : List Th} {cs : Array Value} {fp : Nat → Option Nat × Option Nat} (h : Ring w0 w m mb B σ ts cs fp) {i b : Nat} (hi : i < ts.length)
    (e : (fp i).1 = some b ∨ (fp i).2 = some b) : b < w.heap.size := by
  obtain ⟨hv, pv, qv, h1, h2, h3⟩ := h.at_ i hi
  rcases e with e | e
  · exact h2.lt e
  · exact opAt_lt h3 e
theorem Ring.helds {w0 w : World} {m mb B : Nat} {σ : MS} {ts : List Th} {cs : Array Value} {fp : Nat → Option Nat × Option Nat} (h : Ring w0 w m mb B σ ts cs fp) : Helds w B ts := by
  intro i hi
  obtain ⟨hv, pv, qv, h1, h2, h3⟩ := h.at_ i hi
  exact ⟨_, hv, by rw [h.has.cell]; exact h1.c0, h2⟩
/-- Behind a call that turns nothing that was there. -/
theorem Ring.mod0 {w0 w w' : World} {m mb B : Nat} {σ : MS} {ts : List Th} {cs : Array Value} {fp : Nat → Option Nat × Option Nat} (h : Ring w0 w m mb B σ ts cs fp) (hM : Mod w w' []) : Ring w0 w' m mb B σ ts cs fp :=
  ⟨h.sys.keep hM (by simp) (by simp) (by simp), h.has.mod hM (by simp), h.loB, h.nm, h.nmb, fun i hi => by
    obtain ⟨hv, pv, qv, h1, h2, h3⟩ := h.at_ i hi
    exact ⟨hv, pv, qv, h1, h2.mod hM (by simp), h3.mod hM (by simp)⟩, h.lo, h.ne, h.apart⟩
theorem Ring.anew {w0 w w' : World} {m mb B : Nat} {σ σ' : MS} {ts : List Th} {cs : Array Value} {fp : Nat → Option Nat × Option Nat} (h : Ring w0 w m mb B σ ts cs fp) (hM : Mod w w' [m]) (hs : Sys w0 w' m mb σ') : Ring w0 w' m mb B σ' ts cs fp :=
  ⟨hs, h.has.mod hM (by simpa using h.nm), h.loB, h.nm, h.nmb, fun i hi => by
    obtain ⟨hv, pv, qv, h1, h2, h3⟩ := h.at_ i hi
    exact ⟨hv, pv, qv, h1, h2.mod hM (fun b hb => by simpa using (h.lo i b hi (.inl hb)).2.1), h3.mod hM (fun b hb => by simpa using (h.lo i b hi (.inr hb)).2.1)⟩, h.lo, h.ne, h.apart⟩

theorem ring_step {w0 w : World} {m mb B : Nat} {σ : MS} {ts : List Th} {cs : Array Value} {fp : Nat → Option Nat × Option Nat} (h : Ring w0 w m mb B σ ts cs fp) (i : Nat) (hi : i < ts.length) (push : Bool)
    (hok : ts[i].op.Ok) (hlen : ts[i].held.length ≤ 1000) (hmay : ∀ s ∈ ts[i].held, mayS s = true) :
    Calls Tryd.prog 7 #[.pointer (some ⟨B, i * 3, none⟩), .pointer (some ⟨m, 0, none⟩), .bool push] w fun e w' =>
      e = .returned (.tuple #[]) ∧ ∃ cs' fp', Ring w0 w' m mb B (ts[i].step push σ).2 (ts.set i (ts[i].step push σ).1) cs' fp' := by
  obtain ⟨hv, pv, qv, h1, h2, h3⟩ := h.at_ i hi
  refine (thStep w0 w m mb B (i * 3) cs 32 (fp i).1 (fp i).2 ts[i] σ hv pv qv push (ts[i].step push σ).1 (ts[i].step push σ).2 ⟨h.sys, h.has, h1, h2, h3, fun b hb => h.lo i b hi hb, fun b hb => h.ne i b hi hb, fun b hb => by rcases hb with e | e; exact .inl e; exact .inr (.inl e), Mod.refl _ _⟩ h.loB h.nm h.nmb hok hlen hmay rfl).mono ?_
  rintro e w' ⟨he, g', o', hv', pv', qv', cs', hM⟩
  generalize ts[i].step push σ = r at hM ⊢
  refine ⟨he, cs', fun k => if k = i then (g', o') else fp k, ⟨hM.sys, hM.has, h.loB, h.nm, h.nmb, ?_, ?_, ?_, ?_⟩⟩
  · intro k hk
    simp only [List.length_set] at hk
    by_cases e : k = i
    · subst e
      refine ⟨hv', pv', qv', ⟨rfl, hM.cells.c0, hM.cells.c1, hM.cells.c2, fun _ _ => rfl⟩, ?_, ?_⟩
      · simpa using hM.lies
      · simpa using hM.op
    · obtain ⟨hv2, pv2, qv2, k1, k2, k3⟩ := h.at_ k hk
      have hnot : ∀ b, (fp k).1 = some b ∨ (fp k).2 = some b → b ∉ m :: mb :: B :: ((fp i).1.toList ++ (fp i).2.toList) := by
        intro b hb
        have e1 := h.lo k b hk hb
        have e2 := h.apart k i b hk hi e hb
        simp
        exact ⟨e1.2.1, e1.2.2.1, e1.2.2.2, e2.1, e2.2⟩
      refine ⟨hv2, pv2, qv2, ⟨rfl, ?_, ?_, ?_, fun _ _ => rfl⟩, ?_, ?_⟩
      · rw [hM.cells.far _ (by omega)]
        exact k1.c0
      · rw [hM.cells.far _ (by omega)]
        exact k1.c1
      · rw [hM.cells.far _ (by omega)]
        exact k1.c2
      · simp only [if_neg e]
        rw [List.getElem_set_ne (Ne.symm e)]
        exact k2.mod hM.mod (fun b hb => hnot b (.inl hb))
      · simp only [if_neg e]
        rw [List.getElem_set_ne (Ne.symm e)]
        exact k3.mod hM.mod (fun b hb => hnot b (.inr hb))
  · intro k b hk hb
    simp only [List.length_set] at hk
    by_cases e : k = i
    · rw [if_pos e] at hb
      exact hM.lo b hb
    · rw [if_neg e] at hb
      exact h.lo k b hk hb
  · intro k b hk hb
    simp only [List.length_set] at hk
    by_cases e : k = i
    · rw [if_pos e] at hb ⊢
      exact hM.ne b hb
    · rw [if_neg e] at hb ⊢
      exact h.ne k b hk hb
  · intro k j b hk hj hkj hb
    simp only [List.length_set] at hk hj
    by_cases e : k = i
    · subst e
      rw [if_pos rfl] at hb
      rw [if_neg (Ne.symm hkj)]
      rcases hM.sub b hb with e | e | e
      · exact h.apart k j b hk hj hkj (.inl e)
      · exact h.apart k j b hk hj hkj (.inr e)
      · exact ⟨fun e' => by have := h.lt hj (.inl e'); omega, fun e' => by have := h.lt hj (.inr e'); omega⟩
    · rw [if_neg e] at hb
      by_cases e2 : j = i
      · subst e2
        rw [if_pos rfl]
        have hlt := h.lt hk hb
        have hap := h.apart k j b hk hj hkj hb
        refine ⟨fun e' => ?_, fun e' => ?_⟩
        · rcases hM.sub b (.inl e') with e3 | e3 | e3
          · exact hap.1 e3
          · exact hap.2 e3
          · omega
        · rcases hM.sub b (.inr e') with e3 | e3 | e3
          · exact hap.1 e3
          · exact hap.2 e3
          · omega
      · rw [if_neg e2]
        exact h.apart k j b hk hj hkj hb

theorem sublist_held (ts : List Th) : (ts.flatMap Th.held).Sublist (ts.flatMap Th.own) := by
  induction ts with
  | nil => simp
  | cons x ts ih =>
    simp only [List.flatMap_cons]
    exact List.Sublist.append (by simp [Th.own]) ih
theorem downTo_nodup (n : Nat) : (downTo n).Nodup := by
  induction n with
  | zero => simp [downTo]
  | succ n ih =>
    refine List.nodup_cons.2 ⟨fun h => ?_, ih⟩
    have := mem_downTo h
    omega
theorem downTo_length (n : Nat) : (downTo n).length = n := by
  induction n with
  | zero => rfl
  | succ n ih => simp [downTo, ih]
theorem mem_downTo_of {n : Nat} {s : Int} (h0 : 0 ≤ s) (h1 : s < n) : s ∈ downTo n := by
  induction n with
  | zero => omega
  | succ n ih =>
    by_cases e : s = n
    · exact List.mem_cons.2 (.inl e)
    · exact List.mem_cons.2 (.inr (ih (by omega)))

/-- The law's state: the threads in their block, and what holds of them. -/
def Law (w0 : World) (m mb B n : Nat) (tm : Int) (ts : List Th) (w : World) : Prop :=
  ∃ σ L t cs fp, Ring w0 w m mb B σ ts cs fp ∧ Inv (downTo n) σ L t ts ∧ t ≤ tm

theorem inv_helds {n : Nat} {σ : MS} {L : List Int} {t : Int} {ts : List Th} (h : Inv (downTo n) σ L t ts) :
    (ts.flatMap Th.held).Nodup ∧ (∀ s ∈ ts.flatMap Th.held, 0 ≤ s ∧ s < n) ∧ (∀ x ∈ ts, x.held.length ≤ n) ∧ (∀ x ∈ ts, ∀ s ∈ x.held, mayS s = true) := by
  have hnd := h.perm.nodup_iff.2 h.nodup
  have hsub := sublist_held ts
  refine ⟨(List.nodup_append.1 hnd).2.1.sublist hsub, fun s hs => ?_, fun x hx => ?_, fun x hx s hs => ?_⟩
  · exact mem_downTo (h.perm.mem_iff.1 (List.mem_append.2 (.inr (hsub.mem hs))))
  · have h1 := h.perm.length_eq
    rw [downTo_length] at h1
    have h2 := hsub.length_le
    have h3 : x.held.length ≤ (ts.flatMap Th.held).length := by
      obtain ⟨A, Z, rfl⟩ := List.append_of_mem hx
      simp
      omega
    simp at h1
    simp at h2 h3
    omega
  · exact h.valid s (h.perm.mem_iff.1 (List.mem_append.2 (.inr (hsub.mem (List.mem_flatMap.2 ⟨x, hx, hs⟩)))))

theorem good_ok {σ : MS} {t : Int} {o : OpS} (h : o.Good σ t) : o.Ok := by
  cases o with
  | none => trivial
  | pop p => exact h.1
  | push p => exact h.1

theorem law_step {w0 w : World} {m mb B n : Nat} {tm : Int} {ts : List Th} (h : Law w0 m mb B n tm ts w) (i : Nat) (hi : i < ts.length) (push : Bool) (hn : n ≤ 60) (htm : tm ≤ 100000) :
    Calls Tryd.prog 7 #[.pointer (some ⟨B, i * 3, none⟩), .pointer (some ⟨m, 0, none⟩), .bool push] w fun e w' =>
      e = .returned (.tuple #[]) ∧ ∃ x, Law w0 m mb B n (tm + 1) (ts.set i x) w' := by
  obtain ⟨σ, L, t, cs, fp, hr, hinv, ht⟩ := h
  have hh := inv_helds hinv
  have hm : ts[i] ∈ ts := List.getElem_mem _
  have hl := hh.2.2.1 _ hm
  refine (ring_step hr i hi push (good_ok (hinv.good _ hm)) (by omega) (hh.2.2.2 _ hm)).mono ?_
  rintro e w' ⟨he, cs', fp', hr'⟩
  obtain ⟨L', t', hinv', h1, h2, _⟩ := hinv.step i hi push (by omega) hr.sys.mem.range
  exact ⟨he, _, _, L', t', cs', fp', hr', hinv', by omega⟩

theorem law_mod0 {w0 w w' : World} {m mb B n : Nat} {tm : Int} {ts : List Th} (h : Law w0 m mb B n tm ts w) (hM : Mod w w' []) : Law w0 m mb B n tm ts w' := by
  obtain ⟨σ, L, t, cs, fp, hr, hinv, ht⟩ := h
  exact ⟨σ, L, t, cs, fp, hr.mod0 hM, hinv, ht⟩
theorem law_cell {w0 w : World} {m mb B n : Nat} {tm : Int} {ts : List Th} (h : Law w0 m mb B n tm ts w) {g i : Nat} {v : Value} (hc : w0.cell? ⟨g, i, none⟩ = some v) : w.cell? ⟨g, i, none⟩ = some v := by
  obtain ⟨σ, L, t, cs, fp, hr, hinv, ht⟩ := h
  exact cell_mod hc hr.sys.mod (by simp)
theorem law_mod {w0 w : World} {m mb B n : Nat} {tm : Int} {ts : List Th} (h : Law w0 m mb B n tm ts w) : Mod w0 w [] := by
  obtain ⟨σ, L, t, cs, fp, hr, hinv, ht⟩ := h
  exact hr.sys.mod
theorem Law.mono {w0 w : World} {m mb B n : Nat} {tm tm' : Int} {ts : List Th} (h : Law w0 m mb B n tm ts w) (ht' : tm ≤ tm') : Law w0 m mb B n tm' ts w := by
  obtain ⟨σ, L, t, cs, fp, hr, hinv, ht⟩ := h
  exact ⟨σ, L, t, cs, fp, hr, hinv, by omega⟩
theorem law_apart {w0 w : World} {m mb B n : Nat} {tm : Int} {ts : List Th} (h : Law w0 m mb B n tm ts w) (hn : n ≤ 60) (h6 : ts.length = 6) :
    Calls Tryd.prog 8 #[.slice (some ⟨B, 0, none⟩) 6 6, .int .i64 n] w fun e w' => e = .returned (.bool true) ∧ Law w0 m mb B n tm ts w' := by
  obtain ⟨σ, L, t, cs, fp, hr, hinv, ht⟩ := h
  have hh := inv_helds hinv
  refine (apart_any w B ts n hn h6 (fun x hx => by have := hh.2.2.1 x hx; omega) hr.helds hh.1 hh.2.1).mono ?_
  rintro e w' ⟨he, hM⟩
  exact ⟨he, σ, L, t, cs, fp, hr.mod0 hM, hinv, ht⟩

def zero18 : Array Value := #[.slice none 0 0, .pointer none, .pointer none, .slice none 0 0, .pointer none, .pointer none, .slice none 0 0, .pointer none, .pointer none, .slice none 0 0, .pointer none, .pointer none, .slice none 0 0, .pointer none, .pointer none, .slice none 0 0, .pointer none, .pointer none]
theorem make_ring (w : World) : (Instr.makeSlice 27 (.int .i64 6) (.int .i64 6)).run Tryd.prog w = .ok (.slice (some ⟨w.heap.size, 0, none⟩) 6 6) (w.alloc (.cells zero18 32)) := by
  kernel_rfl
theorem index_ring (B xn : Nat) (W : World) : (Instr.indexAt 27 (.slice (some ⟨B, 0, none⟩) 6 6) (.int .u8 ((xn : Int).tmod 6))).run Tryd.prog W = .ok (.pointer (some ⟨B, (xn % 6) * 3, none⟩)) W := by
  rw [Int.tmod_eq_emod_of_nonneg (by omega)]
  have h1 : (xn : Int) % 6 < 6 := by omega
  have h2 : 0 ≤ (xn : Int) % 6 := by omega
  have h3 : ((xn : Int) % 6).toNat = xn % 6 := by omega
  generalize (xn : Int) % 6 = k at *
  simp [go_sem, h1, h2, h3]
theorem law_new {w0 w : World} {m mb n B : Nat} {σ : MS} (hs : Sys w0 w m mb σ) (hst : Stk σ (downTo n) n) (hn : n ≤ 60) (hB : B = w.heap.size) :
    Law w0 m mb B n n (List.replicate 6 ⟨[], .none⟩) (w.alloc (.cells zero18 32)) := by
  have hM : Mod w (w.alloc (.cells zero18 32)) [] := (Mod.refl _ _).alloc _
  have h1 := hs.mem.lt
  have h2 := hs.mem.ltb
  have h3 := hs.mod.size
  refine ⟨σ, downTo n, n, zero18, fun _ => (none, none), ⟨hs.keep hM (by simp) (by simp) (by simp), by rw [hB]; exact Has.new _ _, by omega, by omega, by omega, ?_, fun i b _ hb => ?_, fun i b _ hb => (by cases hb), fun i j b _ _ _ hb => ?_⟩, ⟨hst, fun x hx => ?_, by simp [Th.own, OpS.slots], downTo_nodup n, fun s hs => ?_⟩, Int.le_refl _⟩
  · intro i hi
    simp at hi
    have : i = 0 ∨ i = 1 ∨ i = 2 ∨ i = 3 ∨ i = 4 ∨ i = 5 := by omega
    rcases this with rfl | rfl | rfl | rfl | rfl | rfl
    all_goals exact ⟨_, _, _, ⟨rfl, rfl, rfl, rfl, fun _ _ => rfl⟩, Lies.nil _, ⟨rfl, rfl, rfl⟩⟩
  · rcases hb with hb | hb <;> cases hb
  · rcases hb with hb | hb <;> cases hb
  · rw [List.eq_of_mem_replicate hx]
    trivial
  · have := mem_downTo hs
    simp [mayS]
    omega

/-- .. and thread i is at most k steps from its end. -/
def Near (w0 : World) (m mb B n : Nat) (tm : Int) (ts : List Th) (i k : Nat) (w : World) : Prop :=
  ∃ σ L t cs fp, Ring w0 w m mb B σ ts cs fp ∧ Inv (downTo n) σ L t ts ∧ t ≤ tm ∧ ∀ (h : i < ts.length), ts[i].op.rank σ ≤ k
theorem Near.law {w0 w : World} {m mb B n : Nat} {tm : Int} {ts : List Th} {i k : Nat} (h : Near w0 m mb B n tm ts i k w) : Law w0 m mb B n tm ts w := by
  obtain ⟨σ, L, t, cs, fp, hr, hinv, ht, _⟩ := h
  exact ⟨σ, L, t, cs, fp, hr, hinv, ht⟩
theorem Law.near {w0 w : World} {m mb B n : Nat} {tm : Int} {ts : List Th} (i : Nat) (h : Law w0 m mb B n tm ts w) : Near w0 m mb B n tm ts i 5 w := by
  obtain ⟨σ, L, t, cs, fp, hr, hinv, ht⟩ := h
  exact ⟨σ, L, t, cs, fp, hr, hinv, ht, fun _ => OpS.rank_le _ _⟩
theorem Near.over {w0 w : World} {m mb B n : Nat} {tm : Int} {ts : List Th} {i : Nat} (h : Near w0 m mb B n tm ts i 0 w) (hi : i < ts.length) : ts[i].op = .none := by
  obtain ⟨σ, L, t, cs, fp, hr, hinv, ht, hk⟩ := h
  exact OpS.rank_zero (hinv.good _ (List.getElem_mem _)) (Nat.le_zero.1 (hk hi))
/-- What the two pointers of a thread are. -/
theorem Law.pointers {w0 w : World} {m mb B n : Nat} {tm : Int} {ts : List Th} (h : Law w0 m mb B n tm ts w) {i : Nat} (hi : i < ts.length) :
    (ts[i].op = .none ∧ w.cell? ⟨B, i * 3 + 1, none⟩ = some (.pointer none) ∧ w.cell? ⟨B, i * 3 + 2, none⟩ = some (.pointer none)) ∨
    (ts[i].op ≠ .none ∧ ∃ b, (w.cell? ⟨B, i * 3 + 1, none⟩ = some (.pointer (some ⟨b, 0, none⟩)) ∧ w.cell? ⟨B, i * 3 + 2, none⟩ = some (.pointer none)) ∨ (w.cell? ⟨B, i * 3 + 1, none⟩ = some (.pointer none) ∧ w.cell? ⟨B, i * 3 + 2, none⟩ = some (.pointer (some ⟨b, 0, none⟩)))) := by
  obtain ⟨σ, L, t, cs, fp, hr, hinv, ht⟩ := h
  obtain ⟨hv, pv, qv, h1, h2, h3⟩ := hr.at_ i hi
  have c1 := hr.has.cell (i * 3 + 1)
  have c2 := hr.has.cell (i * 3 + 2)
  rw [h1.c1] at c1
  rw [h1.c2] at c2
  cases hop : ts[i].op with
  | none =>
    rw [hop] at h3
    obtain ⟨_, rfl, rfl⟩ := h3
    exact .inl ⟨rfl, c1, c2⟩
  | pop p =>
    rw [hop] at h3
    obtain ⟨b, _, rfl, rfl, _⟩ := h3
    exact .inr ⟨by simp, b, .inl ⟨c1, c2⟩⟩
  | push p =>
    rw [hop] at h3
    obtain ⟨b, _, rfl, rfl, _⟩ := h3
    exact .inr ⟨by simp, b, .inr ⟨c1, c2⟩⟩
/-- None is under way among the first i. -/
def Over (ts : List Th) (i : Nat) : Prop := ∀ k (h : k < ts.length), k < i → ts[k].op = .none
theorem Over.set {ts : List Th} {i : Nat} (h : Over ts i) (x : Th) : Over (ts.set i x) i := by
  intro k hk hki
  rw [List.getElem_set_ne (by omega)]
  exact h k (by simpa using hk) hki
theorem Over.next {ts : List Th} {i : Nat} (h : Over ts i) (hi : i < ts.length) (e : ts[i].op = .none) : Over ts (i + 1) := by
  intro k hk hki
  by_cases ek : k = i
  · subst ek
    exact e
  · exact h k hk (by omega)

/-- .. of one that is alone, and has something under way: it is nearer its end. -/
theorem law_alone {w0 w : World} {m mb B n : Nat} {tm : Int} {ts : List Th} {i k : Nat} (h : Near w0 m mb B n tm ts i k w) (hi : i < ts.length) (hn : n ≤ 60) (htm : tm ≤ 100000) (hne : ts[i].op ≠ .none) :
    Calls Tryd.prog 7 #[.pointer (some ⟨B, i * 3, none⟩), .pointer (some ⟨m, 0, none⟩), .bool false] w fun e w' =>
      e = .returned (.tuple #[]) ∧ ∃ x, Near w0 m mb B n (tm + 1) (ts.set i x) i (k - 1) w' := by
  obtain ⟨σ, L, t, cs, fp, hr, hinv, ht, hk⟩ := h
  have hh := inv_helds hinv
  have hm : ts[i] ∈ ts := List.getElem_mem _
  have hl := hh.2.2.1 _ hm
  refine (ring_step hr i hi false (good_ok (hinv.good _ hm)) (by omega) (hh.2.2.2 _ hm)).mono ?_
  rintro e w' ⟨he, cs', fp', hr'⟩
  obtain ⟨L', t', hinv', h1, h2, h3⟩ := hinv.step i hi false (by omega) hr.sys.mem.range
  refine ⟨he, _, _, L', t', cs', fp', hr', hinv', by omega, fun hi' => ?_⟩
  have h4 := h3 hne
  have h5 := hk hi
  rw [List.getElem_set_self]
  omega

/-- The threads' rows, in blocks below wb. -/
def Helds2 (w : World) (wb B : Nat) (ts : List Th) : Prop := B < wb ∧ ∀ i (h : i < ts.length), ∃ g hv, w.cell? ⟨B, i * 3, none⟩ = some hv ∧ Lies w g hv ts[i].held ∧ ∀ b, g = some b → b < wb
theorem Ring.helds2 {w0 w : World} {m mb B : Nat} {σ : MS} {ts : List Th} {cs : Array Value} {fp : Nat → Option Nat × Option Nat} (h : Ring w0 w m mb B σ ts cs fp) {wb : Nat} (hwb : w.heap.size ≤ wb) : Helds2 w wb B ts := by
  have hB := h.has.lt
  refine ⟨by omega, fun i hi => ?_⟩
  obtain ⟨hv, pv, qv, h1, h2, h3⟩ := h.at_ i hi
  exact ⟨_, hv, by rw [h.has.cell]; exact h1.c0, h2, fun b hb => by have := h2.lt hb; omega⟩
theorem Helds2.mod {w w' : World} {wb B : Nat} {ts : List Th} {S : List Nat} (h : Helds2 w wb B ts) (hM : Mod w w' S) (hS : ∀ b ∈ S, wb ≤ b) : Helds2 w' wb B ts := by
  obtain ⟨hB, h⟩ := h
  refine ⟨hB, fun i hi => ?_⟩
  obtain ⟨g, hv, h1, h2, h3⟩ := h i hi
  exact ⟨g, hv, cell_mod h1 hM (fun e => by have := hS _ e; omega), h2.mod hM (fun b hb e => by have := hS _ e; have := h3 b hb; omega), h3⟩
theorem Helds2.size {w0 w w' : World} {m mb B : Nat} {σ : MS} {ts : List Th} {cs : Array Value} {fp : Nat → Option Nat × Option Nat} (h : Ring w0 w m mb B σ ts cs fp) (hM : Mod w w' [m]) : Helds2 w' w.heap.size B ts := by
  obtain ⟨hB, h2⟩ := h.helds2 (Nat.le_refl w.heap.size)
  refine ⟨hB, fun i hi => ?_⟩
  obtain ⟨hv, pv, qv, h1, h2, h3⟩ := h.at_ i hi
  exact ⟨_, hv, by rw [(h.has.mod hM (by simpa using h.nm)).cell]; exact h1.c0, h2.mod hM (fun b hb => by simpa using (h.lo i b hi (.inl hb)).2.1), fun b hb => h2.lt hb⟩

/-- While the threads' rows are put together. -/
structure Rest2 (w : World) (wb B C n : Nat) (L : List Int) (ts : List Th) (v : Value) (j : Nat) (wi : World) : Prop where
  row : wi.ownsRow wb 3 1 v (L ++ (ts.take j).flatMap Th.held).length ((L ++ (ts.take j).flatMap Th.held).map (Value.int .i64))
  ne : ∀ b, v.ownBlock = some b → b ≠ C
  zero : Has wi C (.cells (Array.replicate n (.int .i64 0)) 3)
  held : Helds2 wi wb B ts
  mod : Mod w wi []
  lo : w.heap.size ≤ wb
  hi : wb ≤ wi.heap.size
  hiC : wb ≤ C

theorem Rest2.next {w : World} {wb B C n : Nat} {L : List Int} {ts : List Th} {v : Value} {j : Nat} {wi : World} (h : Rest2 w wb B C n L ts v j wi) (hj : j < ts.length) {v' : Value} {w' : World}
    (hrow : w'.ownsRow wb 3 1 v' (L ++ (ts.take j).flatMap Th.held ++ ts[j].held).length ((L ++ (ts.take j).flatMap Th.held ++ ts[j].held).map (Value.int .i64))) (hM : Mod wi w' v.ownBlock.toList) (hob : ∀ b, v'.ownBlock = some b → v.ownBlock = some b ∨ b = wi.heap.size) :
    Rest2 w wb B C n L ts v' (j + 1) w' := by
  have htk : (ts.take (j + 1)).flatMap Th.held = (ts.take j).flatMap Th.held ++ ts[j].held := by
    rw [List.take_succ_eq_append_getElem hj, List.flatMap_append]
    simp
  have hlo : ∀ b ∈ v.ownBlock.toList, wb ≤ b := fun b hb => (h.row.lt b (by simpa using hb)).1
  have hz := h.zero.lt
  have hl := h.lo
  refine ⟨by rw [htk, ← List.append_assoc]; exact hrow, fun b hb => ?_, h.zero.mod hM (fun hc => h.ne C (by simpa using hc) rfl), h.held.mod hM hlo, h.mod.call hM (fun b hb => .inr (by have := hlo b hb; omega)), h.lo, by have := hM.size; have := h.hi; omega, h.hiC⟩
  rcases hob b hb with e | e
  · exact h.ne b e
  · omega
theorem count_one (R : List Int) (x : Int) (hn : R.Nodup) (hm : x ∈ R) : R.count x = 1 := by
  induction R with
  | nil => cases hm
  | cons y R ih =>
    have hn' := List.nodup_cons.1 hn
    rw [List.count_cons]
    by_cases e : y = x
    · subst e
      rw [List.count_eq_zero_of_not_mem hn'.1]
      simp
    · rw [ih hn'.2 (by rcases List.mem_cons.1 hm with h | h; exact absurd h.symm e; exact h)]
      simp [e]
theorem rest_len (L : List Int) (ts : List Th) (j : Nat) (hj : j < ts.length) : (L ++ (ts.take j).flatMap Th.held).length + ts[j].held.length ≤ (L ++ ts.flatMap Th.held).length := by
  have h1 : ts.flatMap Th.held = (ts.take j).flatMap Th.held ++ (ts[j].held ++ (ts.drop (j + 1)).flatMap Th.held) := by
    rw [← List.flatMap_cons (f := Th.held), ← List.drop_eq_getElem_cons hj, ← List.flatMap_append, List.take_append_drop]
  rw [h1]
  simp only [List.length_append]
  omega
theorem inv_over {n : Nat} {σ : MS} {L : List Int} {t : Int} {ts : List Th} (h : Inv (downTo n) σ L t ts) (ho : Over ts ts.length) : (L ++ ts.flatMap Th.held).Perm (downTo n) := by
  have : ts.flatMap Th.own = ts.flatMap Th.held := by
    have key : ∀ x ∈ ts, Th.own x = Th.held x := by
      intro x hx
      obtain ⟨k, hk, rfl⟩ := List.getElem_of_mem hx
      simp [Th.own, ho k hk hk, OpS.slots]
    clear ho h
    induction ts with
    | nil => rfl
    | cons x ts ih =>
      simp only [List.flatMap_cons]
      rw [key x (by simp), ih (fun y hy => key y (by simp [hy]))]
  rw [← this]
  exact h.perm

end Go.Proofs.YtlecajmnmhpjkaaDoor.law07
