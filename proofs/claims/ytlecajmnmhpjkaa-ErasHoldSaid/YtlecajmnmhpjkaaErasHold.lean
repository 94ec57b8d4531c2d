/- ErasHold: the walk. -/
import Derived.Test.YtlecajmnmhpjkaaErasLives
import Derived.Test.YtlecajmnmhpjkaaRows2
namespace Go.Proofs.Ytlecajmnmhpjkaa.law17
open Go.RowKit

/-- What the law knows of the words: the era, the one block, and thread 3's. -/
structure HoldG (g : Int → Int → Int → Int) (at_ now high : Int) : Prop where
  era : g 2 0 0 = now
  blocks : g 5 0 0 = 1
  owner : g 8 3 0 = 1
  lo : g 8 3 4 = at_ + 1
  hi : g 8 3 5 = high + 1
  others : g 8 0 0 = 0 ∧ g 8 1 0 = 0 ∧ g 8 2 0 = 0

theorem HoldG.held {g : Int → Int → Int → Int} {a now high : Int} (h : HoldG g a now high) (a0 : 0 ≤ a) (a1 : a < 2000000000000) (h0 : 0 ≤ high) (h1 : high < 2000000000000) (b e : Int) :
    anyHeld g b e = (decide (b ≤ high) && decide (a ≤ e)) := by
  have e0 : heldBy g b e 0 = false := by simp [heldBy, thrW, h.others.1]
  have e1 : heldBy g b e 1 = false := by simp [heldBy, thrW, h.others.2.1]
  have e2 : heldBy g b e 2 = false := by simp [heldBy, thrW, h.others.2.2]
  have e3 : heldBy g b e 3 = (decide (b ≤ high) && decide (a ≤ e)) := by
    have t4 : thrW g 3 4 = a + 1 := by simp [thrW, h.owner, h.lo]
    have t5 : thrW g 3 5 = high + 1 := by simp [thrW, h.owner, h.hi]
    unfold heldBy
    have w1 : IntKind.u64.wrap (a + 1 - 1) = a := by rw [wrap_u64_eq]; omega
    have w2 : IntKind.u64.wrap (high + 1 - 1) = high := by rw [wrap_u64_eq]; omega
    have z1 : (a + 1 == 0) = false := by simp; omega
    have z2 : (high + 1 == 0) = false := by simp; omega
    rw [t4, t5, w1, w2, z1, z2]
    simp only [Bool.not_false, Bool.true_and]
    exact Bool.and_comm _ _
  have hl : List.range 4 = [0, 1, 2, 3] := rfl
  unfold anyHeld
  rw [hl]
  simp only [List.any_cons, List.any_nil, e0, e1, e2, e3, Bool.false_or, Bool.or_false]
/-- When the thread is out, nothing is held. -/
theorem held_out {g : Int → Int → Int → Int} (h : g 8 3 4 = 0) (ho : g 8 0 0 = 0 ∧ g 8 1 0 = 0 ∧ g 8 2 0 = 0) (b e : Int) : anyHeld g b e = false := by
  have e0 : heldBy g b e 0 = false := by simp [heldBy, thrW, ho.1]
  have e1 : heldBy g b e 1 = false := by simp [heldBy, thrW, ho.2.1]
  have e2 : heldBy g b e 2 = false := by simp [heldBy, thrW, ho.2.2]
  have e3 : heldBy g b e 3 = false := by simp [heldBy, thrW, h]
  have hl : List.range 4 = [0, 1, 2, 3] := rfl
  unfold anyHeld
  rw [hl]
  simp only [List.any_cons, List.any_nil, e0, e1, e2, e3, Bool.false_or]

/-- The law's world. -/
structure HAt (w0 w : World) (m mb A E : Nat) (ent : Obj) (at_ now high : Int) : Prop where
  sys : ∃ σ, MSys w0 w m mb σ ∧ HoldG σ.g at_ now high
  addr : Has w A (.cells #[.int .u8 2, .int .i64 0, .int .i64 0] 34)
  ent : Has w E ent
  nA : A ≠ m ∧ A ≠ mb
  nE : E ≠ m ∧ E ≠ mb

theorem HoldG.store_era {σ : MS} {a now high n : Int} (h : HoldG σ.g a now high) : HoldG (σ.store 2 0 0 n).g a n high := by
  have hg := store_g (σ := σ) (k := 2) (a := 0) (f := 0) (v := n) (by decide)
  exact ⟨by rw [hg]; simp, by rw [hg, if_neg (by omega)]; exact h.blocks, by rw [hg, if_neg (by omega)]; exact h.owner, by rw [hg, if_neg (by omega)]; exact h.lo, by rw [hg, if_neg (by omega)]; exact h.hi, by rw [hg, if_neg (by omega)]; exact h.others.1, by rw [hg, if_neg (by omega)]; exact h.others.2.1, by rw [hg, if_neg (by omega)]; exact h.others.2.2⟩
theorem HoldG.store_hi {σ : MS} {a now high n : Int} (h : HoldG σ.g a now high) : HoldG (σ.store 8 3 5 (n + 1)).g a now n := by
  have hg := store_g (σ := σ) (k := 8) (a := 3) (f := 5) (v := n + 1) (by decide)
  exact ⟨by rw [hg, if_neg (by omega)]; exact h.era, by rw [hg, if_neg (by omega)]; exact h.blocks, by rw [hg, if_neg (by omega)]; exact h.owner, by rw [hg, if_neg (by omega)]; exact h.lo, by rw [hg]; simp, by rw [hg, if_neg (by omega)]; exact h.others.1, by rw [hg, if_neg (by omega)]; exact h.others.2.1, by rw [hg, if_neg (by omega)]; exact h.others.2.2⟩
theorem init_g (x : Int) (k a f : Int) : (((MS.new.store 2 0 0 x).store 5 0 0 1).store 8 3 0 1).g k a f = if k = 8 ∧ a = 3 ∧ f = 0 then 1 else if k = 5 ∧ a = 0 ∧ f = 0 then 1 else if k = 2 ∧ a = 0 ∧ f = 0 then x else 0 := by
  rw [store_g (by decide), store_g (by decide), store_g (by decide)]
  rfl
theorem entered_g {σ : MS} (x : Int) (h : ∀ k a f, σ.g k a f = if k = 8 ∧ a = 3 ∧ f = 0 then 1 else if k = 5 ∧ a = 0 ∧ f = 0 then 1 else if k = 2 ∧ a = 0 ∧ f = 0 then x else 0) : HoldG (((σ.load 2 0 0).store 8 3 4 (x + 1)).store 8 3 5 (x + 1)).g x x x := by
  have hg : ∀ k a f, (((σ.load 2 0 0).store 8 3 4 (x + 1)).store 8 3 5 (x + 1)).g k a f = if k = 8 ∧ a = 3 ∧ f = 5 then x + 1 else if k = 8 ∧ a = 3 ∧ f = 4 then x + 1 else if k = 8 ∧ a = 3 ∧ f = 0 then 1 else if k = 5 ∧ a = 0 ∧ f = 0 then 1 else if k = 2 ∧ a = 0 ∧ f = 0 then x else 0 := by
    intro k a f
    rw [store_g (by decide), store_g (by decide), ← h k a f]
    rfl
  exact ⟨by rw [hg]; simp, by rw [hg]; simp, by rw [hg]; simp, by rw [hg]; simp, by rw [hg]; simp, by rw [hg]; simp, by rw [hg]; simp, by rw [hg]; simp⟩

set_option maxRecDepth 100000 in
set_option maxHeartbeats 8000000 in
theorem hold_walk (w : World) (first : Int) (f0 : 0 ≤ first) (f1 : first < 18446744073709551616) (r0 r1 r2 ep : Value) (bi ei : Int) (pa : Option Addr) (cap : Nat) (l : List Int) (hr : ∀ x ∈ l, 0 ≤ x ∧ x < 256) (hl : l.length ≤ 100)
    (hc : ∀ i (hi : i < l.length), ∃ b off, pa = some ⟨b, off, none⟩ ∧ w.cell? ⟨b, off + i, none⟩ = some (.int .u8 l[i])) :
    Calls Try.prog 3 #[.int .u64 first, .slice pa l.length cap, .agg #[r0, r1, r2, .int .u64 bi, ep, .int .u64 ei]] w fun e w' => e = .returned (.bool true) ∧ Mod w w' [] := by
  have HC := Lib.hid hc
  have HR := Lib.hid hr
  have F1 := Lib.hid f1
  clear hc hr f1
  have hl6 : (l.length : Int) ≤ 100 := by omega
  obtain ⟨E, hE⟩ : ∃ E, E = w.heap.size := ⟨_, rfl⟩
  have HE := Lib.hid hE
  go_enter Try.func3, Try.ntmps3
  go_wp2_with fail
  rw [← hE]
  clear hE
  have hEn := Has.new_at w (.cells #[r0, r1, r2, .int .u64 bi, ep, .int .u64 ei] 28) E HE.out
  have hM0 : Mod w (w.alloc (.cells #[r0, r1, r2, .int .u64 bi, ep, .int .u64 ei] 28)) [] := (Mod.refl _ _).alloc _
  generalize w.alloc (.cells #[r0, r1, r2, .int .u64 bi, ep, .int .u64 ei] 28) = wE at hEn hM0 ⊢
  refine (msys_new hM0).mono ?_
  rintro e w1 ⟨m, mb, rfl, h, hM1, g1, g2⟩
  have hnE : E ≠ m ∧ E ≠ mb := by
    have := hEn.lt
    omega
  replace hEn := hEn.mod hM1 (by simp)
  clear hM1 g1 g2 hM0
  obtain ⟨A, hA⟩ : ∃ A, A = w1.heap.size := ⟨_, rfl⟩
  have hnA : A ≠ m ∧ A ≠ mb := by
    have := h.mem.lt
    have := h.mem.ltb
    omega
  go_wp2_with fail
  obtain ⟨a, ha⟩ : ∃ a, a = first % 1099511627776 := ⟨_, rfl⟩
  rw [← ha, ← hA]
  have a0 : 0 ≤ a := by omega
  have a1 : a < 1099511627776 := by omega
  have hC := Has.new_at w1 (.cells #[.int .u8 2, .int .i64 0, .int .i64 0] 34) A hA
  have hMA : Mod w1 (w1.alloc (.cells #[.int .u8 2, .int .i64 0, .int .i64 0] 34)) [] := (Mod.refl _ _).alloc _
  replace h := h.keep0 hMA
  replace hEn := hEn.mod hMA (by simp)
  generalize w1.alloc (.cells #[.int .u8 2, .int .i64 0, .int .i64 0] 34) = w2 at hC h hEn ⊢
  clear hA ha hMA
  have nS : ∀ (c : Nat), (c ≠ m ∧ c ≠ mb) → c ∉ [m, mb] := fun c hc => by simp; exact hc
  have NS := Lib.hid nS
  clear nS
  refine (msys_store h 2 0 0 a a0 (by omega) (by decide)).mono ?_
  rintro e w3 ⟨rfl, h3, hM3⟩
  replace hC := hC.mod hM3 (NS.out _ hnA)
  replace hEn := hEn.mod hM3 (NS.out _ hnE)
  clear h hM3
  go_wp2_with fail
  refine (msys_store h3 5 0 0 1 (by omega) (by omega) (by decide)).mono ?_
  rintro e w4 ⟨rfl, h4, hM4⟩
  replace hC := hC.mod hM4 (NS.out _ hnA)
  replace hEn := hEn.mod hM4 (NS.out _ hnE)
  clear h3 hM4
  go_wp2_with fail
  refine (msys_store h4 8 3 0 1 (by omega) (by omega) (by decide)).mono ?_
  rintro e w5 ⟨rfl, h5, hM5⟩
  replace hC := hC.mod hM5 (NS.out _ hnA)
  replace hEn := hEn.mod hM5 (NS.out _ hnE)
  have hig := init_g a
  clear h4 hM5
  generalize ((MS.new.store 2 0 0 a).store 5 0 0 1).store 8 3 0 1 = σ5 at h5 hig
  have hera5 : σ5.g 2 0 0 = a := by rw [hig]; simp
  have HIG := Lib.hid hig
  clear hig
  have hw1 : IntKind.u64.wrap (a + 1) = a + 1 := by rw [wrap_u64_eq]; omega
  have HW1 := Lib.hid hw1
  go_wp2_with fail
  refine (entered_any w w5 m mb σ5 3 (by omega) (by omega) h5).mono ?_
  rintro e w6 ⟨rfl, h6, hM6⟩
  rw [hera5, hw1] at h6 ⊢
  replace hC := hC.mod hM6 (NS.out _ hnA)
  replace hEn := hEn.mod hM6 (NS.out _ hnE)
  have hG6 := entered_g a HIG.out
  clear h5 hM6 hera5
  generalize ((σ5.load 2 0 0).store 8 3 4 (a + 1)).store 8 3 5 (a + 1) = σ6 at h6 hG6
  go_wp2_with fail
  go_loopw [10, 11, 12, 13] (fun vhi vnow vhigh vi wr => ∃ (j : Nat) (now high : Int), j ≤ l.length ∧ vi = .int .i64 j ∧ vhi = .int .u64 (high + 1) ∧ vnow = .int .u64 now ∧ vhigh = .int .u64 high ∧ a ≤ high ∧ high ≤ now ∧ now ≤ a + 2 * j ∧
    ∃ σ, MSys w wr m mb σ ∧ HoldG σ.g a now high ∧ Has wr A (.cells #[.int .u8 2, .int .i64 0, .int .i64 0] 34) ∧ Has wr E (.cells #[r0, r1, r2, .int .u64 bi, ep, .int .u64 ei] 28)) (fun _ _ _ i _ => l.length - (intOf i).toNat)
  case atStart => exact ⟨0, a, a, Nat.zero_le _, rfl, rfl, rfl, rfl, by omega, by omega, by omega, σ6, h6, hG6, hC, hEn⟩
  case round =>
    clear h6 hG6 hC hEn
    obtain ⟨j, now, high, hj, rfl, rfl, rfl, rfl, hb1, hb2, hb3, σ, hs, hG, hC, hEn⟩ := hrel
    by_cases hlt : j < l.length
    · obtain ⟨ab, ao, rfl, hcx⟩ := HC.out j hlt
      have hx01 := HR.out l[j] (List.getElem_mem _)
      generalize l[j] = x at hcx hx01
      obtain ⟨xn, rfl⟩ : ∃ xn : Nat, x = xn := ⟨x.toNat, by omega⟩
      have hx256 : xn < 256 := by omega
      clear hx01
      have hcw := cell_mod hcx hs.mod (by simp)
      have hjl : (j : Int) < l.length := by omega
      have c_hC_0 := hC.cell 0; have c_hC_1 := hC.cell 1; have c_hC_2 := hC.cell 2; simp only [getRules] at c_hC_0 c_hC_1 c_hC_2
      go_wp2_with fail
      obtain ⟨n2, hn2⟩ : ∃ n2, n2 = now + (xn : Int) % 3 := ⟨_, rfl⟩
      rw [← hn2]
      have hn20 : now ≤ n2 ∧ n2 ≤ now + 2 := by omega
      refine (msys_store hs 2 0 0 n2 (by omega) (by omega) (by decide)).mono ?_
      rintro e w4 ⟨rfl, hs4, hM4⟩
      replace hC := hC.mod hM4 (NS.out _ hnA)
      replace hEn := hEn.mod hM4 (NS.out _ hnE)
      have hG4 := hG.store_era (n := n2)
      generalize σ.store 2 0 0 n2 = σ4 at hs4 hG4
      clear hs hG hM4 hcw c_hC_0 c_hC_1 c_hC_2 hn2
      have hcw := cell_mod hcx hs4.mod (by simp)
      have HC4 := Lib.hid hC
      have HE4 := Lib.hid hEn
      clear hC hEn
      go_wp2_with fail
      · exact ⟨⟨j + 1, n2, high, by omega, by go_num, rfl, rfl, rfl, by omega, by omega, by omega, σ4, hs4, hG4, HC4.out, HE4.out⟩, by simp [intOf]; omega⟩
      · refine (newRaise_any w4 3 (high + 1) (by omega) (by omega)).mono ?_
        rintro e w5 ⟨rfl, rfl⟩
        obtain ⟨b, hb⟩ : ∃ b, b = w4.heap.size := ⟨_, rfl⟩
        have hbm : b ≠ m := by have := hs4.mem.lt; omega
        have hbmb : b ≠ mb := by have := hs4.mem.ltb; omega
        have hbA : A ≠ b := by have := HC4.out.lt; omega
        have hbE : E ≠ b := by have := HE4.out.lt; omega
        have hblo : w.heap.size ≤ b := by have := hs4.mod.size; omega
        rw [← hb]
        have hO := Has.new_at w4 (raiseO 2 3 (high + 1) 0 false) b hb
        have hMr : Mod w4 (w4.alloc (raiseO 2 3 (high + 1) 0 false)) [] := (Mod.refl _ _).alloc _
        have hs5 := hs4.keep0 hMr
        have hC := HC4.out.mod hMr (by simp)
        have hEn := HE4.out.mod hMr (by simp)
        generalize w4.alloc (raiseO 2 3 (high + 1) 0 false) = w5 at hO hs5 hC hEn ⊢
        clear hb hs4 HC4 HE4 hMr hcw
        go_wp2_with fail
        refine (raiseStep_first w5 b m mb σ4 3 (high + 1) 0 hO hs5.mem hbm hbmb).mono ?_
        rintro e w6 ⟨rfl, hM6', hm6, hO6⟩
        rw [hG4.era, show IntKind.u64.wrap (n2 + 1) = n2 + 1 by rw [wrap_u64_eq]; omega] at hO6 ⊢
        have hs6 := hs5.next hM6' (by intro c hc; have := hs5.lo; simp at hc; omega) hm6
        replace hC := hC.mod hM6' (by simp; omega)
        replace hEn := hEn.mod hM6' (by simp; omega)
        have hG6 : HoldG (σ4.load 2 0 0).g a n2 high := hG4
        clear hs5 hO hM6' hm6 hG4
        generalize σ4.load 2 0 0 = σ6 at hs6 hG6
        by_cases hnh : n2 = high
        · subst hnh
          rw [show decide (n2 + 1 = n2 + 1) = true by simp]
          have hO6' : Has w6 b (raiseO 0 3 (n2 + 1) (n2 + 1) true) := by simpa [raised] using hO6
          clear hO6
          go_wp2_with fail
          refine (raiseGot_any w6 b _ _ _ _ _ hO6').mono ?_
          rintro e w7 ⟨rfl, hM7⟩
          have hs7 := hs6.keep0 hM7
          have HC7 := Lib.hid (hC.mod hM7 (by simp))
          have HE7 := Lib.hid (hEn.mod hM7 (by simp))
          clear hs6 hC hEn hM7 hO6'
          go_wp2_with fail
          go_roundw
          case rel =>
            have hfin : ∃ (j' : Nat) (now high : Int), j' ≤ l.length ∧ Value.int .i64 ((j : Int) + 1) = .int .i64 j' ∧ Value.int .u64 (n2 + 1) = .int .u64 (high + 1) ∧ Value.int .u64 n2 = .int .u64 now ∧ Value.int .u64 n2 = .int .u64 high ∧ a ≤ high ∧ high ≤ now ∧ now ≤ a + 2 * j' ∧
              ∃ σ, MSys w w7 m mb σ ∧ HoldG σ.g a now high ∧ Has w7 A (.cells #[.int .u8 2, .int .i64 0, .int .i64 0] 34) ∧ Has w7 E (.cells #[r0, r1, r2, .int .u64 bi, ep, .int .u64 ei] 28) :=
              ⟨j + 1, n2, n2, by omega, by go_num, rfl, rfl, rfl, by omega, by omega, by omega, σ6, hs7, hG6, HC7.out, HE7.out⟩
            first | exact hfin | ((repeat apply Exists.intro); exact ⟨hfin, rfl⟩)
          case measure => simp [intOf]; omega
        · rw [show decide (n2 + 1 = high + 1) = false by simp; omega]
          have hO6' : Has w6 b (raiseO 1 3 (high + 1) (n2 + 1) false) := by
            unfold raised at hO6
            rwa [if_neg (by omega)] at hO6
          clear hO6
          have hnhb : (n2 == high) = false := by simpa using hnh
          go_wp2_with fail
          refine (raiseGot_any w6 b _ _ _ _ _ hO6').mono ?_
          rintro e w7 ⟨rfl, hM7⟩
          have hs7 := hs6.keep0 hM7
          replace hO6' := hO6'.mod hM7 (by simp)
          replace hC := hC.mod hM7 (by simp)
          replace hEn := hEn.mod hM7 (by simp)
          clear hs6 hM7
          go_wp2_with fail
          refine (raiseStep_last w7 b m mb σ6 3 (high + 1) (n2 + 1) false (by omega) (by omega) (by omega) (Lib.hid (by omega)) hO6' hs7.mem hbm hbmb).mono ?_
          rintro e w8 ⟨rfl, hM8, hm8, hO8⟩
          have hs8 := hs7.next hM8 (by intro c hc; have := hs7.lo; have := hs7.lob; simp at hc; omega) hm8
          replace hC := hC.mod hM8 (by simp; omega)
          replace hEn := hEn.mod hM8 (by simp; omega)
          have hG8 := hG6.store_hi (n := n2)
          clear hs7 hO6' hM8 hm8 hG6
          generalize σ6.store 8 3 5 (n2 + 1) = σ8 at hs8 hG8
          go_wp2_with fail
          refine (raiseGot_any w8 b _ _ _ _ _ hO8).mono ?_
          rintro e w9 ⟨rfl, hM9⟩
          have hs9 := hs8.keep0 hM9
          have HC9 := Lib.hid (hC.mod hM9 (by simp))
          have HE9 := Lib.hid (hEn.mod hM9 (by simp))
          clear hs8 hC hEn hM9 hO8
          go_wp2_with fail
          go_roundw
          case rel =>
            have hfin : ∃ (j' : Nat) (now high : Int), j' ≤ l.length ∧ Value.int .i64 ((j : Int) + 1) = .int .i64 j' ∧ Value.int .u64 (n2 + 1) = .int .u64 (high + 1) ∧ Value.int .u64 n2 = .int .u64 now ∧ Value.int .u64 n2 = .int .u64 high ∧ a ≤ high ∧ high ≤ now ∧ now ≤ a + 2 * j' ∧
              ∃ σ, MSys w w9 m mb σ ∧ HoldG σ.g a now high ∧ Has w9 A (.cells #[.int .u8 2, .int .i64 0, .int .i64 0] 34) ∧ Has w9 E (.cells #[r0, r1, r2, .int .u64 bi, ep, .int .u64 ei] 28) :=
              ⟨j + 1, n2, n2, by omega, by go_num, rfl, rfl, rfl, by omega, by omega, by omega, σ8, hs9, hG8, HC9.out, HE9.out⟩
            first | exact hfin | ((repeat apply Exists.intro); exact ⟨hfin, rfl⟩)
          case measure => simp [intOf]; omega
    · obtain rfl : j = l.length := by omega
      have hany := hG.held a0 (by omega) (by omega) (by omega) bi ei
      have hwh : IntKind.u64.wrap (high + 1) = high + 1 := by rw [wrap_u64_eq]; omega
      have HANY := Lib.hid hany
      have HWH := Lib.hid hwh
      clear hC hany
      go_wp2_with fail
      refine (snap_any w wr m mb σ hs hG.blocks).mono ?_
      rintro e w3 ⟨s, σ3, rfl, hS, hslo, hs3, hg3, hM3⟩
      replace hEn := hEn.mod hM3 (by simp; exact hnE.1)
      have hG3 : HoldG σ3.g a now high := by rw [hg3]; exact hG
      rw [← hg3] at hS
      have HANY3 : Hid (anyHeld σ3.g bi ei = (decide (bi ≤ high) && decide (a ≤ ei))) := Lib.hid (by rw [hg3]; exact HANY.out)
      have hsm : s ≠ m := by have := hs.mem.lt; omega
      clear hs hG hM3 hg3 HANY hslo
      obtain ⟨D, hD⟩ : ∃ D, D = w3.heap.size := ⟨_, rfl⟩
      have hElt := hEn.lt
      have c_hEn_0 := hEn.cell 0; have c_hEn_1 := hEn.cell 1; have c_hEn_2 := hEn.cell 2; have c_hEn_3 := hEn.cell 3; have c_hEn_4 := hEn.cell 4; have c_hEn_5 := hEn.cell 5; simp only [getRules] at c_hEn_0 c_hEn_1 c_hEn_2 c_hEn_3 c_hEn_4 c_hEn_5
      have HD := Lib.hid hD
      clear hD
      by_cases c1 : bi ≤ high <;> by_cases c2 : a ≤ ei
      all_goals
        have C1 := Lib.hid c1
        have C2 := Lib.hid c2
        go_wp2_with fail
        rw [← HD.out]
        have hDn := Has.new_at w3 (.cells #[.slice (some ⟨s, 0, none⟩) 4 4, .int .u64 0] 44) D HD.out
        have hMD : Mod w3 (w3.alloc (.cells #[.slice (some ⟨s, 0, none⟩) 4 4, .int .u64 0] 44)) [] := (Mod.refl _ _).alloc _
        have hs4 := hs3.keep0 hMD
        have hS4 := hS.mod hMD (by simp)
        have hEn4 := hEn.mod hMD (by simp)
        have hDm : D ∉ [m] := by simp; have := hs3.mem.lt; have := HD.out; omega
        have hEm : E ∉ [m] := by simp; exact hnE.1
        generalize w3.alloc (.cells #[.slice (some ⟨s, 0, none⟩) 4 4, .int .u64 0] 44) = w4 at hDn hs4 hS4 hEn4 ⊢
        clear hMD c_hEn_0 c_hEn_1 c_hEn_2 c_hEn_3 c_hEn_4 c_hEn_5 hElt
        refine (word_any w w4 m mb σ3 3 4 hs4).mono ?_
        rintro e w5 ⟨σ5', rfl, hs5, hg5, hM5⟩
        rw [hG3.lo]
        have hsm' : s ∉ [m] := by simp; exact hsm
        replace hDn := hDn.mod hM5 hDm
        replace hS4 := hS4.mod hM5 hsm'
        replace hEn4 := hEn4.mod hM5 hEm
        clear hs4 hM5
        go_wp2_with fail
        refine (word_any w w5 m mb σ5' 3 5 hs5).mono ?_
        rintro e w6 ⟨σ6', rfl, hs6, hg6, hM6⟩
        rw [hg5, hG3.hi]
        rw [hg5] at hg6
        replace hDn := hDn.mod hM6 hDm
        replace hS4 := hS4.mod hM6 hsm'
        replace hEn4 := hEn4.mod hM6 hEm
        have hG6 : HoldG σ6'.g a now high := by rw [hg6]; exact hG3
        clear hs5 hM6 hg5 hg6 hsm'
        have c_hDn_0 := hDn.cell 0; have c_hDn_1 := hDn.cell 1; simp only [getRules] at c_hDn_0 c_hDn_1
        have c_hEn4_0 := hEn4.cell 0; have c_hEn4_1 := hEn4.cell 1; have c_hEn4_2 := hEn4.cell 2; have c_hEn4_3 := hEn4.cell 3; have c_hEn4_4 := hEn4.cell 4; have c_hEn4_5 := hEn4.cell 5; simp only [getRules] at c_hEn4_0 c_hEn4_1 c_hEn4_2 c_hEn4_3 c_hEn4_4 c_hEn4_5
        have hwh := HWH.out
        go_wp2_with fail
        refine (eMay_any w6 s σ3.g r0 r1 r2 ep _ bi ei hS4).mono ?_
        rintro e w7 ⟨rfl, hM7⟩
        rw [HANY3.out]
        have hs7 := hs6.keep0 hM7
        replace hEn4 := hEn4.mod hM7 (by simp)
        clear hs6 hM7 c_hDn_0 c_hDn_1 hDn hS4 c_hEn4_0 c_hEn4_1 c_hEn4_2 c_hEn4_3 c_hEn4_4 c_hEn4_5 hDm
        go_wp2_with fail
        refine (newExit_any w7 3 (by omega) (by omega)).mono ?_
        rintro e w8 ⟨rfl, rfl⟩
        obtain ⟨b, hb⟩ : ∃ b, b = w7.heap.size := ⟨_, rfl⟩
        have hbm : b ≠ m := by have := hs7.mem.lt; omega
        have hbmb : b ≠ mb := by have := hs7.mem.ltb; omega
        have hbE : E ≠ b := by have := hEn4.lt; omega
        have hblo : w.heap.size ≤ b := by have := hs7.mod.size; omega
        rw [← hb]
        have hO := Has.new_at w7 (exitO 2 3) b hb
        have hMr : Mod w7 (w7.alloc (exitO 2 3)) [] := (Mod.refl _ _).alloc _
        replace hs7 := hs7.keep0 hMr
        replace hEn4 := hEn4.mod hMr (by simp)
        generalize w7.alloc (exitO 2 3) = w8 at hO hs7 hEn4 ⊢
        clear hb hMr
        go_wp2_with fail
        refine (exitStep_first w8 b m mb σ6' 3 (by omega) (by omega) hO hs7.mem hbm hbmb).mono ?_
        rintro e w9 ⟨rfl, hM9, hm9, hO9⟩
        have hs9 := hs7.next hM9 (by intro c hc; have := hs7.lo; have := hs7.lob; simp at hc; omega) hm9
        replace hEn4 := hEn4.mod hM9 (by simp; omega)
        have hg9 := store_g (σ := σ6') (k := 8) (a := 3) (f := 4) (v := 0) (by decide)
        have k1 : (σ6'.store 8 3 4 0).g 5 0 0 = 1 := by rw [hg9, if_neg (by omega)]; exact hG6.blocks
        have k2 : (σ6'.store 8 3 4 0).g 8 3 4 = 0 := by rw [hg9]; simp
        have k3 : (σ6'.store 8 3 4 0).g 8 0 0 = 0 ∧ (σ6'.store 8 3 4 0).g 8 1 0 = 0 ∧ (σ6'.store 8 3 4 0).g 8 2 0 = 0 := ⟨by rw [hg9, if_neg (by omega)]; exact hG6.others.1, by rw [hg9, if_neg (by omega)]; exact hG6.others.2.1, by rw [hg9, if_neg (by omega)]; exact hG6.others.2.2⟩
        clear hs7 hO hM9 hm9 hg9 hG6 HANY3 hG3
        generalize σ6'.store 8 3 4 0 = σ9 at hs9 k1 k2 k3
        go_wp2_with fail
        refine (snap_any w w9 m mb σ9 hs9 k1).mono ?_
        rintro e w10 ⟨s2, σ10, rfl, hS2, hslo2, hs10, hg10, hM10⟩
        have HO2 := Lib.hid (held_out k2 k3 bi ei)
        have hs2m : s2 ≠ m ∧ s2 ≠ mb ∧ s2 ≠ b := by have := hs9.mem.lt; have := hs9.mem.ltb; have := hO9.lt; omega
        replace hEn4 := hEn4.mod hM10 hEm
        have hO10 := hO9.mod hM10 (by simp; exact hbm)
        obtain ⟨D2, hD2⟩ : ∃ D2, D2 = w10.heap.size := ⟨_, rfl⟩
        have hD2m : D2 ≠ m ∧ D2 ≠ mb ∧ D2 ≠ b := by have := hs10.mem.lt; have := hs10.mem.ltb; have := hO10.lt; omega
        clear hs9 hM10 hslo2 hO9
        have HD2 := Lib.hid hD2
        clear hD2
        go_wp2_with fail
        rw [← HD2.out]
        have hDn2 := Has.new_at w10 (.cells #[.slice (some ⟨s2, 0, none⟩) 4 4, .int .u64 0] 44) D2 HD2.out
        have hMD2 : Mod w10 (w10.alloc (.cells #[.slice (some ⟨s2, 0, none⟩) 4 4, .int .u64 0] 44)) [] := (Mod.refl _ _).alloc _
        have hs11 := hs10.keep0 hMD2
        replace hS2 := hS2.mod hMD2 (by simp)
        replace hEn4 := hEn4.mod hMD2 (by simp)
        have hO11 := hO10.mod hMD2 (by simp)
        generalize w10.alloc (.cells #[.slice (some ⟨s2, 0, none⟩) 4 4, .int .u64 0] 44) = w11 at hDn2 hs11 hS2 hEn4 hO11 ⊢
        clear hMD2 hs10 hO10
        refine (exitStep_last w11 b m mb σ10 3 (by omega) (by omega) hO11 hs11.mem hbm hbmb).mono ?_
        rintro e w12 ⟨rfl, hM12, hm12, hO12⟩
        have hs12 := hs11.next hM12 (by intro c hc; have := hs11.lo; have := hs11.lob; simp at hc; omega) hm12
        have hEl : E ∉ [m, mb, b] := by simp; omega
        replace hEn4 := hEn4.mod hM12 hEl
        replace hDn2 := hDn2.mod hM12 (by simp; omega)
        replace hS2 := hS2.mod hM12 (by simp; omega)
        have hg12 := store_g (σ := σ10) (k := 8) (a := 3) (f := 5) (v := 0) (by decide)
        rw [← hg10] at k1 k2 k3
        have l1 : (σ10.store 8 3 5 0).g 5 0 0 = 1 := by rw [hg12, if_neg (by omega)]; exact k1
        have l2 : (σ10.store 8 3 5 0).g 8 3 4 = 0 := by rw [hg12, if_neg (by omega)]; exact k2
        have l3 : (σ10.store 8 3 5 0).g 8 0 0 = 0 ∧ (σ10.store 8 3 5 0).g 8 1 0 = 0 ∧ (σ10.store 8 3 5 0).g 8 2 0 = 0 := ⟨by rw [hg12, if_neg (by omega)]; exact k3.1, by rw [hg12, if_neg (by omega)]; exact k3.2.1, by rw [hg12, if_neg (by omega)]; exact k3.2.2⟩
        have HO3 := Lib.hid (held_out l2 l3 bi ei)
        clear hs11 hO11 hO12 hM12 hm12 hg12 k1 k2 k3 l2 l3 hg10
        generalize σ10.store 8 3 5 0 = σ12 at hs12 l1 HO3
        have c_hEn4_0 := hEn4.cell 0; have c_hEn4_1 := hEn4.cell 1; have c_hEn4_2 := hEn4.cell 2; have c_hEn4_3 := hEn4.cell 3; have c_hEn4_4 := hEn4.cell 4; have c_hEn4_5 := hEn4.cell 5; simp only [getRules] at c_hEn4_0 c_hEn4_1 c_hEn4_2 c_hEn4_3 c_hEn4_4 c_hEn4_5
        have c_hDn2_0 := hDn2.cell 0; have c_hDn2_1 := hDn2.cell 1; simp only [getRules] at c_hDn2_0 c_hDn2_1
        have hEs : E ∉ [m] := by simp; exact hnE.1
        have hDs : D2 ∉ [m] := by simp; exact hD2m.1
        have hEl12 := hEn4.lt
        have hDl12 := hDn2.lt
        go_wp2_with fail
        go_region_held3 (fun W => W.cell? ⟨E, 0, none⟩ = some r0 ∧ W.cell? ⟨E, 1, none⟩ = some r1 ∧ W.cell? ⟨E, 2, none⟩ = some r2 ∧ W.cell? ⟨E, 3, none⟩ = some (.int .u64 bi) ∧ W.cell? ⟨E, 4, none⟩ = some ep ∧ W.cell? ⟨E, 5, none⟩ = some (.int .u64 ei) ∧ W.cell? ⟨D2, 0, none⟩ = some (.slice (some ⟨s2, 0, none⟩) 4 4) ∧ W.cell? ⟨D2, 1, none⟩ = some (.int .u64 0))
          (first | exact ⟨by assumption, by assumption, by assumption, by assumption, by assumption, by assumption, by assumption, by assumption⟩ | (simp [go_sem, c_hEn4_0, c_hEn4_1, c_hEn4_2, c_hEn4_3, c_hEn4_4, c_hEn4_5, c_hDn2_0, c_hDn2_1]))
          (first
            | (go_at_call 14; go_must (first | (refine (eMay_any _ s3 σ12.g r0 r1 r2 ep _ bi ei hS3).mono ?_; rintro e w15 ⟨rfl, hM15⟩; rw [HO3.out]; have hs15 := hs14.keep0 hM15; replace hEn4 := hEn4.mod hM15 (by simp); replace hDn2 := hDn2.mod hM15 (by simp); clear c_hEn4_0 c_hEn4_1 c_hEn4_2 c_hEn4_3 c_hEn4_4 c_hEn4_5 c_hDn2_0 c_hDn2_1; have c_hEn4_0 := hEn4.cell 0; have c_hEn4_1 := hEn4.cell 1; have c_hEn4_2 := hEn4.cell 2; have c_hEn4_3 := hEn4.cell 3; have c_hEn4_4 := hEn4.cell 4; have c_hEn4_5 := hEn4.cell 5; simp only [getRules] at c_hEn4_0 c_hEn4_1 c_hEn4_2 c_hEn4_3 c_hEn4_4 c_hEn4_5; have c_hDn2_0 := hDn2.cell 0; have c_hDn2_1 := hDn2.cell 1; simp only [getRules] at c_hDn2_0 c_hDn2_1) | (refine (eMay_any _ s2 σ9.g r0 r1 r2 ep _ bi ei (hS2.mod (S := []) (by (repeat (first | with_reducible (first | exact Mod.refl _ _ | apply Mod.drewN | apply Mod.drew | apply Mod.alloc | refine Mod.setCell ?_ ?_ _ | refine Mod.put ?_ ?_ _) | focus (simp; done) | focus (simp; omega)))) (by simp))).mono ?_; rintro e w13 ⟨rfl, hM13⟩; rw [HO2.out]; have hM13' : Mod w12 w13 [] := (by (repeat (first | with_reducible (first | exact hM13 | exact Mod.refl _ _ | apply Mod.drewN | apply Mod.drew | apply Mod.alloc | refine Mod.setCell ?_ ?_ _ | refine Mod.put ?_ ?_ _ | refine Mod.call ?_ hM13 ?_) | focus (simp; done) | focus (simp; omega)))); have hs13 := hs12.keep0 hM13'; replace hEn4 := hEn4.mod hM13' (by simp); replace hDn2 := hDn2.mod hM13' (by simp); clear c_hEn4_0 c_hEn4_1 c_hEn4_2 c_hEn4_3 c_hEn4_4 c_hEn4_5 c_hDn2_0 c_hDn2_1; have c_hEn4_0 := hEn4.cell 0; have c_hEn4_1 := hEn4.cell 1; have c_hEn4_2 := hEn4.cell 2; have c_hEn4_3 := hEn4.cell 3; have c_hEn4_4 := hEn4.cell 4; have c_hEn4_5 := hEn4.cell 5; simp only [getRules] at c_hEn4_0 c_hEn4_1 c_hEn4_2 c_hEn4_3 c_hEn4_4 c_hEn4_5; have c_hDn2_0 := hDn2.cell 0; have c_hDn2_1 := hDn2.cell 1; simp only [getRules] at c_hDn2_0 c_hDn2_1)))
            | (go_at_call 12; go_must (refine (snap_any w _ m mb σ12 hs13 l1).mono ?_; rintro e w14 ⟨s3, σ14, rfl, hS3, hslo3, hs14, hg14, hM14⟩; replace hEn4 := hEn4.mod hM14 hEs; replace hDn2 := hDn2.mod hM14 hDs; clear c_hEn4_0 c_hEn4_1 c_hEn4_2 c_hEn4_3 c_hEn4_4 c_hEn4_5 c_hDn2_0 c_hDn2_1; have c_hEn4_0 := hEn4.cell 0; have c_hEn4_1 := hEn4.cell 1; have c_hEn4_2 := hEn4.cell 2; have c_hEn4_3 := hEn4.cell 3; have c_hEn4_4 := hEn4.cell 4; have c_hEn4_5 := hEn4.cell 5; simp only [getRules] at c_hEn4_0 c_hEn4_1 c_hEn4_2 c_hEn4_3 c_hEn4_4 c_hEn4_5; have c_hDn2_0 := hDn2.cell 0; have c_hDn2_1 := hDn2.cell 1; simp only [getRules] at c_hDn2_0 c_hDn2_1))
            | (go_at_call 5; go_must (refine (lives_any _ _ (Mod.refl _ [])).mono ?_; rintro e w16 ⟨rfl, hM16⟩; replace hEn4 := hEn4.mod hM16 (by simp); replace hDn2 := hDn2.mod hM16 (by simp); clear c_hEn4_0 c_hEn4_1 c_hEn4_2 c_hEn4_3 c_hEn4_4 c_hEn4_5 c_hDn2_0 c_hDn2_1; have c_hEn4_0 := hEn4.cell 0; have c_hEn4_1 := hEn4.cell 1; have c_hEn4_2 := hEn4.cell 2; have c_hEn4_3 := hEn4.cell 3; have c_hEn4_4 := hEn4.cell 4; have c_hEn4_5 := hEn4.cell 5; simp only [getRules] at c_hEn4_0 c_hEn4_1 c_hEn4_2 c_hEn4_3 c_hEn4_4 c_hEn4_5; have c_hDn2_0 := hDn2.cell 0; have c_hDn2_1 := hDn2.cell 1; simp only [getRules] at c_hDn2_0 c_hDn2_1)))
        go_wp2_with fail
        go_ret
        exact ⟨rfl, hs15.mod.call hM16 (by simp)⟩

set_option maxRecDepth 100000 in
set_option maxHeartbeats 1000000 in
theorem hold_long (w : World) (first : Int) (r0 r1 r2 ep : Value) (bi ei : Int) (pa : Option Addr) (cap len : Nat) (h : 100 < len) :
    Calls Try.prog 3 #[.int .u64 first, .slice pa len cap, .agg #[r0, r1, r2, .int .u64 bi, ep, .int .u64 ei]] w fun e w' => e = .returned (.bool true) ∧ Mod w w' [] := by
  have h' : (100 : Int) < (len : Int) := by omega
  go_enter Try.func3, Try.ntmps3
  go_wp2_with fail
  refine (lives_any w _ ((Mod.refl _ _).alloc _)).mono ?_
  rintro e w3 ⟨rfl, hM⟩
  go_wp2
  go_ret
  exact ⟨rfl, hM⟩

end Go.Proofs.Ytlecajmnmhpjkaa.law17
