/- The free list as a stack: what one alone does to it. -/
import Derived.Test.YtlecajmnmhpjkaaDoorFreeSys
namespace Go.Proofs.YtlecajmnmhpjkaaDoor
open Go.RowKit

def topOf : List Int → Int
  | [] => -1
  | s :: _ => s
/-- The list's slots are those of L, the head's tag is t. -/
structure Stk (σ : MS) (L : List Int) (t : Int) : Prop where
  head : σ.g 0 0 0 = headW (topOf L) t
  link : ∀ i s, L[i]? = some s → slotW (σ.g 9 s 2) = topOf (L.drop (i + 1))
  valid : ∀ s ∈ L, mayS s = true
  nodup : L.Nodup
  t0 : 0 ≤ t
  t1 : t < 281474976710656

theorem slotW_headW {s t : Int} (h : mayS s = true) : slotW (headW s t) = s := by
  unfold slotW headW
  rw [if_pos h]
  have h' := h
  simp [mayS] at h'
  rw [show (s + 1 + t % 281474976710656 * 65536) % 65536 - 1 = s by omega, if_pos h]
theorem slotW_none (t : Int) : slotW (headW (-1) t) = -1 := by
  have e : headW (-1) t % 65536 - 1 = -1 := by
    unfold headW
    rw [if_neg (by simp [mayS])]
    omega
  unfold slotW
  rw [e, if_neg (by simp [mayS])]
theorem tag_headW (s : Int) {t : Int} (h0 : 0 ≤ t) (h1 : t < 281474976710656) : headW s t / 65536 = t := by
  unfold headW
  split
  · rename_i h
    simp [mayS] at h
    omega
  · omega
theorem topOf_valid {L : List Int} (h : ∀ s ∈ L, mayS s = true) : topOf L = -1 ∨ mayS (topOf L) = true := by
  cases L with
  | nil => exact .inl rfl
  | cons s L => exact .inr (h s (by simp))
theorem slotW_top {L : List Int} (h : ∀ s ∈ L, mayS s = true) (t : Int) : slotW (headW (topOf L) t) = topOf L := by
  rcases topOf_valid h with e | e
  · rw [e]
    exact slotW_none t
  · exact slotW_headW e
theorem Stk.top {σ : MS} {L : List Int} {t : Int} (h : Stk σ L t) : slotW (σ.g 0 0 0) = topOf L := by
  rw [h.head]
  exact slotW_top h.valid t
theorem Stk.tag {σ : MS} {L : List Int} {t : Int} (h : Stk σ L t) : σ.g 0 0 0 / 65536 = t := by
  rw [h.head]
  exact tag_headW _ h.t0 h.t1
theorem Stk.new : Stk MS.new [] 0 := ⟨by decide, by simp, by simp, by simp, by omega, by omega⟩
/-- Only the words count. -/
theorem Stk.same {σ σ' : MS} {L : List Int} {t : Int} (h : Stk σ L t) (hg : ∀ k a f, σ'.g k a f = σ.g k a f) : Stk σ' L t :=
  ⟨by rw [hg]; exact h.head, fun i s hi => by rw [hg]; exact h.link i s hi, h.valid, h.nodup, h.t0, h.t1⟩

def pushIt (s : Int) (σ : MS) : Nat → PushS × MS
  | 0 => (PushS.new s, σ)
  | j + 1 => (pushIt s σ j).1.step (pushIt s σ j).2
def popIt (σ : MS) : Nat → PopS × MS
  | 0 => (PopS.new, σ)
  | j + 1 => (popIt σ j).1.step (popIt σ j).2

theorem may_link {s : Int} (h : mayS s = true) : mayA 9 s 2 = true := by
  simp [mayS] at h
  simp [mayA, roomAt, roomF]
  exact h

theorem push3 {σ : MS} {L : List Int} {t s : Int} (h : Stk σ L t) (hs : mayS s = true) (hn : s ∉ L) (ht : t + 1 < 281474976710656) :
    Stk (pushIt s σ 3).2 (s :: L) (t + 1) ∧ (pushIt s σ 3).1.line = 0 := by
  have e1 : pushIt s σ 1 = (⟨2, σ.g 0 0 0, s⟩, σ.load 0 0 0) := by simp [pushIt, PushS.new, PushS.step]
  have e2 : pushIt s σ 2 = (⟨3, σ.g 0 0 0, s⟩, (σ.load 0 0 0).store 9 s 2 (headW (slotW (σ.g 0 0 0)) 0)) := by
    rw [pushIt, e1]
    simp [PushS.step]
  have g2 : ((σ.load 0 0 0).store 9 s 2 (headW (slotW (σ.g 0 0 0)) 0)).g = σ.put 9 s 2 (headW (slotW (σ.g 0 0 0)) 0) := by
    unfold MS.store
    rw [if_pos (may_link hs)]
    rfl
  have g20 : ((σ.load 0 0 0).store 9 s 2 (headW (slotW (σ.g 0 0 0)) 0)).g 0 0 0 = σ.g 0 0 0 := by
    rw [g2]
    simp [MS.put]
  have e3 : pushIt s σ 3 = (⟨0, σ.g 0 0 0, s⟩, ((σ.load 0 0 0).store 9 s 2 (headW (slotW (σ.g 0 0 0)) 0)).cas 0 0 0 (σ.g 0 0 0) (headW s (σ.g 0 0 0 / 65536 + 1))) := by
    rw [pushIt, e2]
    simp [PushS.step, g20]
  rw [e3]
  refine ⟨⟨?_, ?_, ?_, ?_, by have := h.t0; omega, ht⟩, rfl⟩
  · unfold MS.cas
    rw [if_pos ⟨by rw [g20]; simp, by decide⟩]
    simp [MS.put, h.tag, topOf]
  · intro i x hi
    have hx : (((σ.load 0 0 0).store 9 s 2 (headW (slotW (σ.g 0 0 0)) 0)).cas 0 0 0 (σ.g 0 0 0) (headW s (σ.g 0 0 0 / 65536 + 1))).g 9 x 2 =
        if x = s then headW (slotW (σ.g 0 0 0)) 0 else σ.g 9 x 2 := by
      unfold MS.cas
      rw [if_pos ⟨by rw [g20]; simp, by decide⟩]
      simp [MS.put, g2]
    rw [hx]
    cases i with
    | zero =>
      simp at hi
      subst hi
      rw [if_pos rfl, h.top]
      simp [slotW_top h.valid]
    | succ i =>
      simp at hi
      have hm := List.mem_of_getElem? hi
      rw [if_neg (fun e => hn (by rw [← e]; exact hm)), h.link i x hi]
      simp
  · intro x hx
    rcases List.mem_cons.1 hx with rfl | hx
    · exact hs
    · exact h.valid x hx
  · exact List.nodup_cons.2 ⟨hn, h.nodup⟩

theorem pop3 {σ : MS} {L : List Int} {t s : Int} (h : Stk σ (s :: L) t) (ht : t + 1 < 281474976710656) :
    Stk (popIt σ 3).2 L (t + 1) ∧ (popIt σ 3).1.line = 0 ∧ (popIt σ 3).1.slot = s ∧ (popIt σ 3).1.ok = true := by
  have hs := h.valid s (by simp)
  have htop : slotW (σ.g 0 0 0) = s := h.top
  have hs0 := hs
  simp [mayS] at hs0
  have e1 : popIt σ 1 = (⟨2, σ.g 0 0 0, 0, 0, false⟩, σ.load 0 0 0) := by
    simp [popIt, PopS.new, PopS.step, htop]
    omega
  have hl : slotW (σ.g 9 s 2) = topOf L := by simpa using h.link 0 s (by simp)
  have e2 : popIt σ 2 = (⟨3, σ.g 0 0 0, topOf L, 0, false⟩, (σ.load 0 0 0).load 9 s 2) := by
    rw [popIt, e1]
    simp [PopS.step, htop, MS.load, hl]
  have e3 : popIt σ 3 = (⟨0, σ.g 0 0 0, topOf L, s, true⟩, ((σ.load 0 0 0).load 9 s 2).cas 0 0 0 (σ.g 0 0 0) (headW (topOf L) (σ.g 0 0 0 / 65536 + 1))) := by
    rw [popIt, e2]
    simp [PopS.step, MS.load, htop]
  have hv : ∀ x ∈ L, mayS x = true := fun x hx => h.valid x (by simp [hx])
  rw [e3]
  refine ⟨⟨?_, ?_, hv, (List.nodup_cons.1 h.nodup).2, by have := h.t0; omega, ht⟩, rfl, rfl, rfl⟩
  · unfold MS.cas
    rw [if_pos ⟨by simp [MS.load], by decide⟩]
    simp [MS.put, h.tag]
  · intro i x hi
    have hx : (((σ.load 0 0 0).load 9 s 2).cas 0 0 0 (σ.g 0 0 0) (headW (topOf L) (σ.g 0 0 0 / 65536 + 1))).g 9 x 2 = σ.g 9 x 2 := by
      unfold MS.cas
      rw [if_pos ⟨by simp [MS.load], by decide⟩]
      simp [MS.put, MS.load]
    rw [hx]
    simpa using h.link (i + 1) x (by simpa using hi)

theorem ownsRow_mod {w w' : World} {base : Nat} {e : TypeId} {size : Nat} {v : Value} {n : Nat} {xs : List Value} {S : List Nat} (h : w.ownsRow base e size v n xs) (hm : Mod w w' S)
    (hS : ∀ q, v.ownBlock = some q → q ∉ S) : w'.ownsRow base e size v n xs := by
  obtain ⟨h1, h2⟩ := h
  refine ⟨h1, ?_⟩
  rcases h2 with h2 | ⟨g, cap, cur, rfl, hb, hh, r⟩
  · exact .inl h2
  · refine .inr ⟨g, cap, cur, rfl, hb, ?_, r⟩
    have hlt : g < w.heap.size := (Array.getElem?_eq_some_iff.1 hh).1
    rw [hm.same g hlt (hS g rfl)]
    exact hh

theorem Mod.of_below {w w' : World} (h : Below w.heap.size w w') : Mod w w' [] := ⟨h.size, fun b hb _ => h.block b hb, h.os, h.tape, h.output⟩

/-- j steps of a Push of s that began in wi, at memory σ: the operation lies in block b. -/
structure PushRun (w wi : World) (m mb b : Nat) (s : Int) (σ : MS) (j : Nat) (wj : World) : Prop where
  sys : Sys w wj m mb (pushIt s σ j).2
  obj : Has wj b (pushIt s σ j).1.obj
  ok : (pushIt s σ j).1.Ok
  mod : Mod wi wj [m, mb, b]
structure PopRun (w wi : World) (m mb b : Nat) (σ : MS) (j : Nat) (wj : World) : Prop where
  sys : Sys w wj m mb (popIt σ j).2
  obj : Has wj b (popIt σ j).1.obj
  ok : (popIt σ j).1.Ok
  mod : Mod wi wj [m, mb, b]

theorem PushRun.step {w wi wj : World} {m mb b : Nat} {s : Int} {σ : MS} {j : Nat} (h : PushRun w wi m mb b s σ j wj) (lo : w.heap.size ≤ b) (n1 : b ≠ m) (n2 : b ≠ mb) :
    Calls Tryd.prog 21 #[.pointer (some ⟨b, 0, none⟩), .pointer (some ⟨m, 0, none⟩)] wj fun e w' =>
      e = .returned (.bool ((pushIt s σ (j + 1)).1.line == 0)) ∧ PushRun w wi m mb b s σ (j + 1) w' := by
  refine (sys_pushStep h.sys h.ok h.obj lo n1 n2).mono ?_
  rintro e w' ⟨he, hs, ho, hM⟩
  exact ⟨he, hs, ho, h.ok.step h.sys.mem.range, h.mod.call hM (fun _ h => .inl h)⟩
theorem PopRun.step {w wi wj : World} {m mb b : Nat} {σ : MS} {j : Nat} (h : PopRun w wi m mb b σ j wj) (lo : w.heap.size ≤ b) (n1 : b ≠ m) (n2 : b ≠ mb) :
    Calls Tryd.prog 23 #[.pointer (some ⟨b, 0, none⟩), .pointer (some ⟨m, 0, none⟩)] wj fun e w' =>
      e = .returned (.bool ((popIt σ (j + 1)).1.line == 0)) ∧ PopRun w wi m mb b σ (j + 1) w' := by
  refine (sys_popStep h.sys h.ok h.obj lo n1 n2).mono ?_
  rintro e w' ⟨he, hs, ho, hM⟩
  exact ⟨he, hs, ho, h.ok.step h.sys.mem.range, h.mod.call hM (fun _ h => .inl h)⟩

/-- A run begins. -/
theorem PushRun.new {w wi : World} {m mb : Nat} {s : Int} {σ : MS} (h : Sys w wi m mb σ) (hs : mayS s = true) :
    Calls Tryd.prog 20 #[.int .i64 s] wi fun e w' => ∃ b, e = .returned (.pointer (some ⟨b, 0, none⟩)) ∧ w.heap.size ≤ b ∧ b ≠ m ∧ b ≠ mb ∧ wi.heap.size ≤ b ∧ PushRun w wi m mb b s σ 0 w' := by
  have := h.mem.lt
  have := h.mem.ltb
  have := h.mod.size
  refine (sys_newPush h hs).mono ?_
  rintro e w' ⟨he, hs', ho, hM⟩
  exact ⟨_, he, by omega, by omega, by omega, Nat.le_refl _, hs', ho, PushS.new_ok hs, hM.wider (by simp)⟩
theorem PopRun.new {w wi : World} {m mb : Nat} {σ : MS} (h : Sys w wi m mb σ) :
    Calls Tryd.prog 22 #[] wi fun e w' => ∃ b, e = .returned (.pointer (some ⟨b, 0, none⟩)) ∧ w.heap.size ≤ b ∧ b ≠ m ∧ b ≠ mb ∧ wi.heap.size ≤ b ∧ PopRun w wi m mb b σ 0 w' := by
  have := h.mem.lt
  have := h.mem.ltb
  have := h.mod.size
  refine (sys_newPop h).mono ?_
  rintro e w' ⟨he, hs', ho, hM⟩
  exact ⟨_, he, by omega, by omega, by omega, Nat.le_refl _, hs', ho, PopS.new_ok, hM.wider (by simp)⟩

theorem pop2_same {σ : MS} {L : List Int} {t s : Int} (h : Stk σ (s :: L) t) :
    (popIt σ 2).1 = ⟨3, σ.g 0 0 0, topOf L, 0, false⟩ ∧ ∀ k a f, (popIt σ 2).2.g k a f = σ.g k a f := by
  have hs := h.valid s (by simp)
  have htop : slotW (σ.g 0 0 0) = s := h.top
  simp [mayS] at hs
  have e1 : popIt σ 1 = (⟨2, σ.g 0 0 0, 0, 0, false⟩, σ.load 0 0 0) := by
    simp [popIt, PopS.new, PopS.step, htop]
    omega
  have hl : slotW (σ.g 9 s 2) = topOf L := by simpa using h.link 0 s (by simp)
  have e2 : popIt σ 2 = (⟨3, σ.g 0 0 0, topOf L, 0, false⟩, (σ.load 0 0 0).load 9 s 2) := by
    rw [popIt, e1]
    simp [PopS.step, htop, MS.load, hl]
  rw [e2]
  exact ⟨rfl, fun _ _ _ => rfl⟩

/-- A Pop at its last line whose head is another one than the list's does not take. -/
theorem pop_stale {σ : MS} {hd nx : Int} (h : σ.g 0 0 0 ≠ hd) :
    ((⟨3, hd, nx, 0, false⟩ : PopS).step σ).1 = ⟨1, hd, nx, 0, false⟩ ∧ ∀ k a f, ((⟨3, hd, nx, 0, false⟩ : PopS).step σ).2.g k a f = σ.g k a f := by
  have e : ((⟨3, hd, nx, 0, false⟩ : PopS).step σ) = (⟨1, hd, nx, 0, false⟩, σ.cas 0 0 0 hd (headW nx (hd / 65536 + 1))) := by
    simp [PopS.step, h]
  rw [e]
  refine ⟨rfl, fun k a f => ?_⟩
  simp [MS.cas, h]

theorem PopRun.at {w wi : World} {m mb b : Nat} {σ : MS} (h : Sys w wi m mb σ) (ho : Has wi b PopS.new.obj) : PopRun w wi m mb b σ 0 wi :=
  ⟨h, ho, PopS.new_ok, Mod.refl _ _⟩

theorem take_rev (S : List Int) (k : Nat) (h : k < S.length) : (S.take (k + 1)).reverse = S[k] :: (S.take k).reverse := by
  rw [List.take_succ_eq_append_getElem h]
  simp
theorem take_not_mem (S : List Int) (hn : S.Nodup) (k : Nat) (h : k < S.length) : S[k] ∉ (S.take k).reverse := by
  intro hm
  rw [List.mem_reverse, List.mem_take_iff_getElem] at hm
  obtain ⟨i, hi, he⟩ := hm
  have := (List.pairwise_iff_getElem.1 hn) i k (by omega) h (by omega)
  exact this he

theorem cell_mod {w w' : World} {S : List Nat} {g j : Nat} {v : Value} (h : w.cell? ⟨g, j, none⟩ = some v) (hm : Mod w w' S) (hg : g ∉ S) : w'.cell? ⟨g, j, none⟩ = some v := by
  rw [World.cell?_of_block (w := w) (hm.same g (World.block_lt_of_cell? _ _ h) hg)]
  exact h
/-- The cells of a slice of numbers that lies in a block of its own. -/
def SliceAt (w : World) (pv : Option Addr) (T : List Int) (m mb : Nat) : Prop :=
  ∀ j (_ : j < T.length), ∃ g, pv = some ⟨g, 0, none⟩ ∧ g ≠ m ∧ g ≠ mb ∧ w.cell? ⟨g, j, none⟩ = some (.int .i64 T[j])
theorem SliceAt.mod {w w' : World} {pv : Option Addr} {T : List Int} {m mb b : Nat} (h : SliceAt w pv T m mb) (hm : Mod w w' [m, mb, b]) (hb : w.heap.size ≤ b) : SliceAt w' pv T m mb := by
  intro j hj
  obtain ⟨g, e, h1, h2, h3⟩ := h j hj
  have := World.block_lt_of_cell? _ _ h3
  simp only at this
  exact ⟨g, e, h1, h2, cell_mod h3 hm (by simp; omega)⟩
theorem SliceAt.mod0 {w w' : World} {pv : Option Addr} {T : List Int} {m mb : Nat} (h : SliceAt w pv T m mb) (hm : Mod w w' []) : SliceAt w' pv T m mb := by
  intro j hj
  obtain ⟨g, e, h1, h2, h3⟩ := h j hj
  exact ⟨g, e, h1, h2, cell_mod h3 hm (by simp)⟩

theorem sys_load {w0 w : World} {m mb : Nat} {σ : MS} (h : Sys w0 w m mb σ) (k a f : Int) :
    Calls Tryd.prog 15 #[.pointer (some ⟨m, 0, none⟩), K k a f] w fun e w' => e = .returned (.int .u64 (σ.g k a f)) ∧ Sys w0 w' m mb (σ.load k a f) ∧ Mod w w' [m] := by
  refine (load_any w m mb σ h.mem k a f).mono ?_
  rintro e w' ⟨he, hM, hm⟩
  have := h.lo
  exact ⟨he, h.next hM (by simpa using h.lo) hm, hM⟩
theorem sys_asHead {w0 w : World} {m mb : Nat} {σ : MS} (h : Sys w0 w m mb σ) (x : Int) (h0 : 0 ≤ x) (h1 : x < 18446744073709551616) :
    Calls Tryd.prog 26 #[.int .u64 x] w fun e w' => e = .returned (.tuple #[.int .i64 (slotW x), .int .u64 (x / 65536)]) ∧ Sys w0 w' m mb σ ∧ Mod w w' [] := by
  refine (asHead_any w h.fieldsAt x h0 h1).mono ?_
  rintro e w' ⟨he, n, rfl⟩
  have hM : Mod w (w.drewN n) [] := (Mod.refl _ _).drewN n
  exact ⟨he, h.keep hM (by simp) (by simp) (by simp), hM⟩

theorem SliceAt.modn {w w' : World} {pv : Option Addr} {T : List Int} {m mb : Nat} {S : List Nat} (h : SliceAt w pv T m mb) (hm : Mod w w' S) (hb : ∀ g, pv = some ⟨g, 0, none⟩ → g ∉ S) : SliceAt w' pv T m mb := by
  intro j hj
  obtain ⟨g, e, h1, h2, h3⟩ := h j hj
  exact ⟨g, e, h1, h2, cell_mod h3 hm (hb g e)⟩

theorem SliceAt.take {w : World} {pv : Option Addr} {T : List Int} {m mb : Nat} (h : SliceAt w pv T m mb) (n : Nat) : SliceAt w pv (T.take n) m mb := by
  intro j hj
  have hj' : j < T.length := by
    simp at hj
    omega
  obtain ⟨g, e, h1, h2, h3⟩ := h j hj'
  exact ⟨g, e, h1, h2, by rw [List.getElem_take]; exact h3⟩
theorem ownsRow_cap {w : World} {base : Nat} {e : TypeId} {size : Nat} {pv : Option Addr} {cv n m : Nat} {xs : List Value} (h : w.ownsRow base e size (.slice pv m cv) n xs) : n ≤ cv := by
  rcases h.2 with ⟨_, rfl⟩ | ⟨g, cap, cur, hv, _, _, h3, _⟩
  · omega
  · simp only [Value.slice.injEq] at hv
    omega

end Go.Proofs.YtlecajmnmhpjkaaDoor
