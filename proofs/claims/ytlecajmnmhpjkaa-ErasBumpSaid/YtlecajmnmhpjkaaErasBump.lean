/- ErasBump: the walk. -/
import Derived.Test.YtlecajmnmhpjkaaBumps
namespace Go.Proofs.Ytlecajmnmhpjkaa.law17
open Go.RowKit

theorem index_bump (g xn cv : Nat) (W : World) : (Instr.indexAt 51 (.slice (some ⟨g, 0, none⟩) 6 cv) (.int .u8 ((xn : Int).tmod 6))).run Try.prog W = .ok (.pointer (some ⟨g, xn % 6, none⟩)) W := by
  rw [Int.tmod_eq_emod_of_nonneg (by omega)]
  have h1 : (xn : Int) % 6 < 6 := by omega
  have h2 : 0 ≤ (xn : Int) % 6 := by omega
  have h3 : ((xn : Int) % 6).toNat = xn % 6 := by omega
  generalize (xn : Int) % 6 = k at *
  simp [go_sem, h1, h2, h3]

set_option maxRecDepth 100000 in
set_option maxHeartbeats 4000000 in
theorem bump_walk (w : World) (era : Int) (e0 : 0 ≤ era) (e1 : era < 18446744073709551616) (pa : Option Addr) (cap : Nat) (l : List Int) (hr : ∀ x ∈ l, 0 ≤ x ∧ x < 256) (hl : l.length ≤ 200)
    (hc : ∀ i (hi : i < l.length), ∃ b off, pa = some ⟨b, off, none⟩ ∧ w.cell? ⟨b, off + i, none⟩ = some (.int .u8 l[i])) :
    Calls Try.prog 4 #[.int .u64 era, .slice pa l.length cap] w fun e w' => e = .returned (.bool true) ∧ Mod w w' [] := by
  have HC := Lib.hid hc
  have HR := Lib.hid hr
  have E1 := Lib.hid e1
  clear hc hr e1
  obtain ⟨i0, hi0, hz0, hz1, hz2⟩ := info_parts (P := Try.prog) (e := 52) (z := .pointer none) (size := 1) (bytes := 8) (by kernel_rfl)
  have hl6 : (l.length : Int) ≤ 200 := by omega
  go_enter Try.func4, Try.ntmps4
  go_wp2_with fail
  refine (msys_new (Mod.refl w [])).mono ?_
  rintro e w1 ⟨m, mb, rfl, h, hM, g1, g2⟩
  clear hM
  obtain ⟨A, hA⟩ : ∃ A, A = w1.heap.size := ⟨_, rfl⟩
  have hAm : A ≠ m ∧ A ≠ mb ∧ w.heap.size ≤ A := by
    have := h.mem.lt
    have := h.mem.ltb
    have := h.mod.size
    omega
  go_wp2_with fail
  rw [← hA]
  have hC := Has.new_at w1 (.cells #[.int .u8 2, .int .i64 0, .int .i64 0] 34) A hA
  have h2 := h.keep0 ((Mod.refl _ []).alloc (.cells #[.int .u8 2, .int .i64 0, .int .i64 0] 34))
  generalize w1.alloc (.cells #[.int .u8 2, .int .i64 0, .int .i64 0] 34) = w2 at hC h2 ⊢
  clear hA h g1 g2
  refine (msys_store h2 2 0 0 era e0 E1.out (by decide)).mono ?_
  rintro e w3 ⟨rfl, h3, hM3⟩
  have hAl := hAm
  replace hC := hC.mod hM3 (by simp; omega)
  have hB0 : BAt w w3 m mb A (MS.new.store 2 0 0 era) (.slice none 0 0) [] [] :=
    ⟨h3, World.ownsRow_nil _ _ _ _, rfl, fun i h => by simp at h, by simp, by simp, (fun q hq => by cases hq), hC, hAm⟩
  have hI0 : BInv era (MS.new.store 2 0 0 era) (List.replicate 6 Bmp.new) := by
    refine ⟨?_, fun x hx => ?_, fun _ x hx => .inl ?_, e0, E1.out⟩
    · rw [store_g (by decide), if_pos ⟨rfl, rfl, rfl⟩]
      have := E1.out
      simp [Bmp.new, wrap_u64_eq]
      omega
    · rw [List.eq_of_mem_replicate hx]
      exact ⟨.inr (.inr rfl), fun _ => rfl⟩
    · rw [List.eq_of_mem_replicate hx]
      rfl
  have HI0 := Lib.hid hI0
  clear h2 h3 hM3 hC hAl hI0
  generalize MS.new.store 2 0 0 era = σ0 at hB0 HI0
  go_wp2_with fail
  go_loopw [7, 8] (fun v i wr => ∃ k : Nat, k ≤ 6 ∧ i = .int .i64 k ∧ ∃ bs, bs.length = k ∧ BAt w wr m mb A σ0 v bs (List.replicate k Bmp.new)) (fun _ i _ => 6 - (intOf i).toNat)
  case atStart => exact ⟨0, by omega, rfl, [], rfl, hB0⟩
  case round =>
    clear hB0
    obtain ⟨k, hk, rfl, bs, hbs, hB⟩ := hrel
    by_cases hk6 : k < 6
    · go_wp2_with fail
      refine (newBump_any wr).mono ?_
      rintro e w4 ⟨rfl, rfl⟩
      have hrow := hB.row
      have hsz := hB.sys.mod.size
      rw [hbs] at hrow
      obtain ⟨pv, cv, rfl⟩ := ownsRow_form hrow
      go_wp2_with (first | (at_builtin; go_must (refine wpList_append_own_at _ rfl _ _ 51 rfl w.heap.size 52 i0 (.pointer none) 1 8 Try.underlying51 hi0 hz0 hz1 hz2 rfl (by decide) (.slice pv k cv) k _ rfl ((hrow.alloc (bumpO 2 0 false)).alloc (.cells #[.pointer (some ⟨wr.heap.size, 0, none⟩)] 52)) ⟨wr.heap.size + 1, 0, none⟩ 1 1 [.pointer (some ⟨wr.heap.size, 0, none⟩)] rfl rfl (World.news_of_block (Has.new_at _ _ _ (by simp))) (fun x hx => by simp at hx; subst hx; rfl) (by unfold maxLen; omega) (by omega) (by simp; omega) ?_); intro v' w5 hown' hgrow hnil hat))
      have hM5 : Mod wr w5 (Value.slice pv k cv).ownBlock.toList := (((Mod.refl wr _).alloc _).alloc _).call (Mod.of_grown hgrow) (fun _ h => .inl h)
      have hO5 : Has w5 wr.heap.size Bmp.new.obj := ((Has.new wr Bmp.new.obj).alloc _).mod (Mod.of_grown hgrow) (fun e => by have := (hrow.lt _ (show (Value.slice pv k cv).ownBlock = some wr.heap.size by simpa using e)).2; omega)
      have hmore := hB.more hM5 rfl hO5 (by rw [hbs]; exact hown') (fun q hq => by
        rcases hat with e | e
        · exact .inl (by rw [← e]; exact hq)
        · rw [e] at hq
          cases hq
          exact .inr (by simp; omega))
      rw [show List.replicate k Bmp.new ++ [Bmp.new] = List.replicate (k + 1) Bmp.new from List.replicate_succ'.symm] at hmore
      exact ⟨⟨k + 1, by omega, by go_num, bs ++ [wr.heap.size], by simp [hbs], hmore⟩, by simp [intOf]; omega⟩
    · obtain rfl : k = 6 := by omega
      obtain ⟨pv, cv, rfl⟩ := ownsRow_form hB.row
      rw [hbs] at hB ⊢
      obtain ⟨gv, hpv⟩ : ∃ gv, pv = some ⟨gv, 0, none⟩ := by
        obtain ⟨g, x, h1, _⟩ := ownsRow_cell hB.row (j := 0) (by omega)
        exact ⟨g, h1⟩
      subst hpv
      have hI := HI0.out
      go_wp2_with fail
      go_loopw [9] (fun i wi => ∃ j : Nat, j ≤ l.length ∧ i = .int .i64 j ∧ ∃ σ ops, BAt w wi m mb A σ (.slice (some ⟨gv, 0, none⟩) 6 cv) bs ops ∧ BInv era σ ops) (fun i _ => l.length - (intOf i).toNat)
      case atStart => exact ⟨0, Nat.zero_le _, rfl, σ0, _, hB, hI⟩
      case round =>
        clear hB hI
        obtain ⟨j, hj, rfl, σ, ops, hB, hI⟩ := hrel
        by_cases hlt : j < l.length
        · obtain ⟨ab, ao, rfl, hcx⟩ := HC.out j hlt
          have hx01 := HR.out l[j] (List.getElem_mem _)
          generalize l[j] = x at hcx hx01
          obtain ⟨xn, rfl⟩ : ∃ xn : Nat, x = xn := ⟨x.toNat, by omega⟩
          clear hx01
          have hcw := cell_mod hcx hB.sys.mod (by simp)
          have hi6 : xn % 6 < bs.length := by omega
          have hio : xn % 6 < ops.length := by rw [hB.len]; exact hi6
          obtain ⟨g', y, hg', _, hy, hcy⟩ := ownsRow_cell hB.row hi6
          cases hg'
          rw [List.getElem?_map, List.getElem?_eq_getElem hi6] at hy
          cases hy
          have hia := index_bump gv xn cv
          have hjl : (j : Int) < l.length := by omega
          have hst := hB.step (xn % 6) hi6 hio (hI.ok _ (List.getElem_mem _))
          have HI := Lib.hid (hI.step (xn % 6) hio).1
          have HST := Lib.hid hst
          clear hst hI hB
          generalize hbx : bs[xn % 6] = bx at hcy HST
          go_wp2_with fail
          refine HST.out.mono ?_
          rintro e w4 ⟨rfl, hB4⟩
          have hI4 := HI.out
          clear HST HI hcw hcy hia
          go_wp2_with fail
          go_roundw
          case rel =>
            have hfin : ∃ j' : Nat, j' ≤ l.length ∧ Value.int .i64 ((j : Int) + 1) = .int .i64 j' ∧ ∃ σ ops, BAt w w4 m mb A σ (.slice (some ⟨gv, 0, none⟩) 6 cv) bs ops ∧ BInv era σ ops :=
              ⟨j + 1, by omega, by go_num, _, _, hB4, hI4⟩
            first | exact hfin | ((repeat apply Exists.intro); exact ⟨hfin, rfl⟩)
          case measure => simp [intOf]; omega
        · obtain rfl : j = l.length := by omega
          go_wp2_with fail
          go_loopw [10, 11] (fun v i wi => ∃ k : Nat, k ≤ 6 ∧ i = .int .i64 k ∧ ∃ σ ops, BAt w wi m mb A σ (.slice (some ⟨gv, 0, none⟩) 6 cv) bs ops ∧ BInv era σ ops ∧ (∀ j (h : j < ops.length), j < k → ops[j].left = 0) ∧ v = .int .u64 ((ops.take k).countP Bmp.mv : Nat)) (fun _ i _ => 6 - (intOf i).toNat)
          case atStart => exact ⟨0, by omega, rfl, σ, ops, hB, hI, fun _ _ h => absurd h (by omega), by simp⟩
          case round =>
            clear hB hI
            obtain ⟨k, hk, rfl, σ, ops, hB, hI, hov, rfl⟩ := hrel
            by_cases hk6 : k < 6
            · have hkb : k < bs.length := by omega
              have hko : k < ops.length := by rw [hB.len]; exact hkb
              have hcnt : (ops.take k).countP Bmp.mv ≤ 6 := Nat.le_trans (List.countP_le_length) (by simp; omega)
              obtain ⟨q, hq⟩ : ∃ q, (ops.take k).countP Bmp.mv = q := ⟨_, rfl⟩
              rw [hq] at hcnt ⊢
              have HQ := Lib.hid hq
              clear hq
              obtain ⟨g', y, hg', _, hy, hcy⟩ := ownsRow_cell hB.row hkb
              cases hg'
              rw [List.getElem?_map, List.getElem?_eq_getElem hkb] at hy
              cases hy
              have hk6' : (k : Int) < 6 := by omega
              have hI1 := hI.step k hko
              have hst := hB.step k hkb hko (hI.ok _ (List.getElem_mem _))
              have hl1 := hI1.2
              have hk1 : k < (ops.set k (ops[k].step σ).1).length := by simpa using hko
              have hmem1 : (ops.set k (ops[k].step σ).1)[k] = (ops[k].step σ).1 := List.getElem_set_self _
              have hI2 := hI1.1.step k hk1
              rw [hmem1] at hI2
              have hov2 : ∀ (y : Bmp), y.left = 0 → ∀ j (h : j < ((ops.set k (ops[k].step σ).1).set k y).length), j < k + 1 → ((ops.set k (ops[k].step σ).1).set k y)[j].left = 0 := by
                intro y hy j hjl hjk
                by_cases e : k = j
                · subst e
                  rw [List.getElem_set_self]
                  exact hy
                · rw [List.getElem_set_ne e, List.getElem_set_ne e]
                  exact hov j (by simpa using hjl) (by omega)
              have hleft : ((ops[k].step σ).1.step (ops[k].step σ).2).1.left = 0 := by
                rw [hI2.2, hl1]
                rcases (hI.ok _ (List.getElem_mem hko)).1 with h | h | h <;> rw [h] <;> simp
              have htk : ∀ y : Bmp, (((ops.set k (ops[k].step σ).1).set k y).take (k + 1)).countP Bmp.mv = q + (if y.mv = true then 1 else 0) := by
                intro y
                rw [← HQ.out, List.take_succ_eq_append_getElem (by simpa using hko), List.countP_append, List.getElem_set_self, List.take_set_of_le (by omega), List.take_set_of_le (by omega)]
                simp [List.countP_cons]
              have HOV := Lib.hid hov2
              have HTK := Lib.hid htk
              have HI2 := Lib.hid hI2.1
              have hok1 : (ops.set k (ops[k].step σ).1)[k].Ok := hI1.1.ok _ (List.getElem_mem hk1)
              have HST := Lib.hid hst
              have HB0 := Lib.hid hB.row
              clear hov hov2 htk hI hI1 hI2 hl1 hst hB
              generalize hxx : ops[k].step σ = r1 at *
              obtain ⟨x1, σ1⟩ := r1
              simp only at *
              generalize hbk : bs[k] = bk at *
              go_wp2_with fail
              refine HST.out.mono ?_
              rintro e w4 ⟨rfl, hB4⟩
              clear HST HB0
              have hst4 := hB4.step k hkb hk1 hok1
              rw [hmem1, hbk] at hst4
              have HST4 := Lib.hid hst4
              obtain ⟨g', y, hg', _, hy, hcy4⟩ := ownsRow_cell hB4.row hkb
              cases hg'
              rw [List.getElem?_map, List.getElem?_eq_getElem hkb, hbk] at hy
              cases hy
              clear hst4 hcy hB4
              generalize hyy : x1.step σ1 = r2 at *
              obtain ⟨x2, σ2⟩ := r2
              simp only at *
              go_wp2_with fail
              refine HST4.out.mono ?_
              rintro e w5 ⟨rfl, hB5⟩
              clear HST4 hcy4
              have hO5 := hB5.at_ k hkb (by simpa using hko)
              rw [List.getElem_set_self, hbk] at hO5
              obtain ⟨g', y, hg', _, hy, hcy5⟩ := ownsRow_cell hB5.row hkb
              cases hg'
              rw [List.getElem?_map, List.getElem?_eq_getElem hkb, hbk] at hy
              cases hy
              go_wp2_with fail
              refine (bumpOver_any w5 bk _ _ _ hO5).mono ?_
              rintro e w6 ⟨rfl, rfl⟩
              rw [hleft]
              go_wp2_with fail
              refine (bumpGot_any w5 bk _ _ _ hO5).mono ?_
              rintro e w6 ⟨rfl, rfl⟩
              have htk2 := HTK.out x2
              have HTK2 := Lib.hid htk2
              have hfin := HOV.out x2 hleft
              have HFIN := Lib.hid hfin
              clear htk2 hfin hcy5 hO5
              cases hmv : x2.mv
              · rw [hmv] at HTK2
                go_wp2_with fail
                go_roundw
                case rel =>
                  have hfin : ∃ k' : Nat, k' ≤ 6 ∧ Value.int .i64 ((k : Int) + 1) = .int .i64 k' ∧ ∃ σ ops, BAt w w5 m mb A σ (.slice (some ⟨gv, 0, none⟩) 6 cv) bs ops ∧ BInv era σ ops ∧ (∀ j (h : j < ops.length), j < k' → ops[j].left = 0) ∧ Value.int .u64 (q : Nat) = .int .u64 ((ops.take k').countP Bmp.mv : Nat) :=
                    ⟨k + 1, by omega, by go_num, _, _, hB5, HI2.out, HFIN.out, by rw [HTK2.out]; simp⟩
                  first | exact hfin | ((repeat apply Exists.intro); exact ⟨hfin, rfl⟩)
                case measure => simp [intOf]; omega
              · rw [hmv] at HTK2
                go_wp2_with fail
                go_roundw
                case rel =>
                  have hfin : ∃ k' : Nat, k' ≤ 6 ∧ Value.int .i64 ((k : Int) + 1) = .int .i64 k' ∧ ∃ σ ops, BAt w w5 m mb A σ (.slice (some ⟨gv, 0, none⟩) 6 cv) bs ops ∧ BInv era σ ops ∧ (∀ j (h : j < ops.length), j < k' → ops[j].left = 0) ∧ Value.int .u64 ((q : Nat) + 1) = .int .u64 ((ops.take k').countP Bmp.mv : Nat) :=
                    ⟨k + 1, by omega, by go_num, _, _, hB5, HI2.out, HFIN.out, by rw [HTK2.out]; simp⟩
                  first | exact hfin | ((repeat apply Exists.intro); exact ⟨hfin, rfl⟩)
                case measure => simp [intOf]; omega
            · obtain rfl : k = 6 := by omega
              have h6 : ops.length = 6 := by rw [hB.len]; exact hbs
              rw [List.take_of_length_le (by omega)]
              have hM0 : ops.countP Bmp.mv ≠ 0 := fun e => by
                have h0 := hov 0 (by omega) (by omega)
                rcases hI.zero e _ (List.getElem_mem (show 0 < ops.length by omega)) with h | h
                · omega
                · have := h.1
                  omega
              have hM6 : ops.countP Bmp.mv ≤ 6 := Nat.le_trans List.countP_le_length (by omega)
              have hval := hI.val
              have hs := hB.sys
              have hC := hB.addr
              have hA3 := hB.nA
              clear hI hov hB
              generalize ops.countP Bmp.mv = M at *
              obtain ⟨V, hV⟩ : ∃ V, V = IntKind.u64.wrap (era + (M : Int)) := ⟨_, rfl⟩
              have hVr := wrap_u64 (era + (M : Int))
              rw [← hV] at hVr hval
              have hVV : IntKind.u64.wrap (era + (M : Int)) = V := hV.symm
              have hM0b : ((M : Int) == 0) = false := by simp; omega
              have hV0 := hVr.1
              have HV1 := Lib.hid hVr.2
              clear hV hVr
              have c_hC_0 := hC.cell 0; have c_hC_1 := hC.cell 1; have c_hC_2 := hC.cell 2; simp only [getRules] at c_hC_0 c_hC_1 c_hC_2
              go_wp2_with fail
              refine (msys_load hs 2 0 0).mono ?_
              rintro e w4 ⟨rfl, hs4, hM4⟩
              rw [hval]
              have hg4 : (σ.load 2 0 0).g 2 0 0 = V := hval
              replace hC := hC.mod hM4 (by simp; omega)
              clear hs hM4 hval
              generalize σ.load 2 0 0 = σ4 at hs4 hg4
              clear c_hC_0 c_hC_1 c_hC_2
              have HVV := Lib.hid hVV
              go_wp2_with fail
              refine (newBump_any w4).mono ?_
              rintro e w5 ⟨rfl, rfl⟩
              obtain ⟨b, hb⟩ : ∃ b, b = w4.heap.size := ⟨_, rfl⟩
              have hbm : b ≠ m := by have := hs4.mem.lt; omega
              have hbmb : b ≠ mb := by have := hs4.mem.ltb; omega
              have hbA : b ≠ A := by have := hC.lt; omega
              have hblo : w.heap.size ≤ b := by have := hs4.mod.size; omega
              rw [← hb]
              have hO := Has.new_at w4 (bumpO 2 0 false) b hb
              have hs5 := hs4.keep0 ((Mod.refl _ []).alloc (bumpO 2 0 false))
              replace hC := hC.alloc (bumpO 2 0 false)
              generalize w4.alloc (bumpO 2 0 false) = w5 at hO hs5 hC ⊢
              clear hb hs4
              go_wp2_with fail
              refine (bumpStep_first w5 b m mb σ4 0 false hO hs5.mem hbm hbmb).mono ?_
              rintro e w6 ⟨rfl, hM6', hm6, hO6⟩
              rw [hg4] at hO6
              have hs6 := hs5.next hM6' (by intro c hc; have := hs5.lo; simp at hc; omega) hm6
              replace hC := hC.mod hM6' (by simp; omega)
              have hg6 : (σ4.load 2 0 0).g 2 0 0 = V := hg4
              clear hs5 hO hM6' hm6
              generalize σ4.load 2 0 0 = σ6 at hs6 hg6
              go_wp2_with fail
              refine (bumpStep_second w6 b m mb σ6 V false hO6 hs6.mem hbm hbmb).mono ?_
              rintro e w7 ⟨rfl, hM7, hm7, hO7⟩
              rw [show (σ6.g 2 0 0 == V) = true by simp [hg6]] at hO7
              have hs7 := hs6.next hM7 (by intro c hc; have := hs6.lo; have := hs6.lob; simp at hc; omega) hm7
              replace hC := hC.mod hM7 (by simp; omega)
              have hg7 : (σ6.cas 2 0 0 V (IntKind.u64.wrap (V + 1))).g 2 0 0 = IntKind.u64.wrap (V + 1) := by rw [cas_g_yes hg6, if_pos ⟨rfl, rfl, rfl⟩]
              clear hs6 hO6 hM7 hm7 hg6
              generalize σ6.cas 2 0 0 V (IntKind.u64.wrap (V + 1)) = σ7 at hs7 hg7
              generalize hV1 : IntKind.u64.wrap (V + 1) = V1 at *
              go_wp2_with fail
              refine (bumpGot_any w7 b _ _ _ hO7).mono ?_
              rintro e w8 ⟨rfl, rfl⟩
              have c_hC_0 := hC.cell 0; have c_hC_1 := hC.cell 1; have c_hC_2 := hC.cell 2; simp only [getRules] at c_hC_0 c_hC_1 c_hC_2
              go_wp2_with fail
              refine (msys_load hs7 2 0 0).mono ?_
              rintro e w8 ⟨rfl, hs8, hM8⟩
              rw [hg7]
              have hmod8 := hs8.mod
              clear hs7 hg7 hO7 hC c_hC_0 c_hC_1 c_hC_2 hs8 hM8
              go_wp2_with fail
              refine (lives_any w w8 hmod8).mono ?_
              rintro e w9 ⟨rfl, hM9⟩
              go_wp2_with fail
              go_ret
              exact ⟨rfl, hM9⟩

set_option maxRecDepth 100000 in
set_option maxHeartbeats 1000000 in
theorem bump_long (w : World) (era : Int) (pa : Option Addr) (cap len : Nat) (h : 200 < len) :
    Calls Try.prog 4 #[.int .u64 era, .slice pa len cap] w fun e w' => e = .returned (.bool true) ∧ Mod w w' [] := by
  have h' : (200 : Int) < (len : Int) := by omega
  go_enter Try.func4, Try.ntmps4
  go_wp2_with fail
  refine (lives_any w w (Mod.refl _ _)).mono ?_
  rintro e w3 ⟨rfl, hM⟩
  go_wp2
  go_ret
  exact ⟨rfl, hM⟩

end Go.Proofs.Ytlecajmnmhpjkaa.law17
