/- FreesOnce: the walk. -/
import Derived.Test.YtlecajmnmhpjkaaDoorFreeLives
import Derived.Test.YtlecajmnmhpjkaaDoorRing
namespace Go.Proofs.YtlecajmnmhpjkaaDoor.law07
open Go.RowKit

set_option maxRecDepth 100000 in
set_option maxHeartbeats 4000000 in
theorem once_walk (w : World) (hf : FieldsAt w) (mn : Nat) (hmn : mn < 256) (pa : Option Addr) (cap : Nat) (l : List Int) (hr : ∀ x ∈ l, 0 ≤ x ∧ x < 256) (hl : l.length ≤ 600)
    (hc : ∀ i (hi : i < l.length), ∃ b off, pa = some ⟨b, off, none⟩ ∧ w.cell? ⟨b, off + i, none⟩ = some (.int .u8 l[i])) :
    Calls Tryd.prog 3 #[.int .u8 mn, .slice pa l.length cap] w fun e w' => e = .returned (.bool true) ∧ Mod w w' [] := by
  have HC := Lib.hid hc
  have HR := Lib.hid hr
  clear hc hr
  obtain ⟨i0, hi0, hz0, hz1, hz2⟩ := info_parts (P := Tryd.prog) (e := 3) (z := .int .i64 0) (size := 1) (bytes := 8) (by kernel_rfl)
  go_enter Tryd.func3, Tryd.ntmps3
  go_wp2_with fail
  obtain ⟨n, hn⟩ : ∃ n : Nat, (mn : Int) % 61 = n := ⟨mn % 61, by omega⟩
  rw [hn]
  have hn60 : n ≤ 60 := by omega
  clear hn
  refine (filled_any w hf n hn60).mono ?_
  rintro e w1 ⟨m, mb, σ0, rfl, hs, hst⟩
  have hlaw0 := law_new hs hst hn60 rfl
  have hmk := make_ring
  have hl6 : (l.length : Int) ≤ 600 := by omega
  go_wp2_with fail
  generalize w1.heap.size = B at hlaw0 ⊢
  clear hs hst hmk
  go_loopw [9] (fun i wi => ∃ j : Nat, j ≤ l.length ∧ i = .int .i64 j ∧ ∃ ts, ts.length = 6 ∧ Law w m mb B n (n + j) ts wi) (fun i _ => l.length - (intOf i).toNat)
  case atStart => exact ⟨0, Nat.zero_le _, rfl, List.replicate 6 ⟨[], .none⟩, rfl, by simpa using hlaw0⟩
  case round =>
    clear hlaw0
    obtain ⟨j, hj, rfl, ts, h6, hlaw⟩ := hrel
    by_cases hlt : j < l.length
    · obtain ⟨ab, ao, rfl, hcx⟩ := HC.out j hlt
      have hx01 := HR.out l[j] (List.getElem_mem _)
      generalize l[j] = x at hcx hx01
      obtain ⟨xn, rfl⟩ : ∃ xn : Nat, x = xn := ⟨x.toNat, by omega⟩
      have hx : xn < 256 := by omega
      clear hx01
      have hcw := law_cell hlaw hcx
      have hjl : (j : Int) < l.length := by omega
      have hia := index_ring B xn
      have HJ : Hid (j < 601) := Lib.hid (by omega)
      go_wp2_with fail
      go_region_held3 (fun W => W.cell? ⟨ab, ao + j, none⟩ = some (.int .u8 xn)) (first | assumption | (simp [go_sem, hcw]))
        (first | (go_at_call 7; go_must (refine (law_step (law_mod0 hlaw ((Mod.refl _ _).drew)) (xn % 6) (by omega) _ hn60 (by have := HJ.out; omega)).mono ?_; rintro e w2 ⟨rfl, x2, hlaw2⟩; have hcw2 := law_cell hlaw2 hcx)))
      go_wp2_with fail
      refine (law_apart hlaw2 hn60 (by simp [h6])).mono ?_
      rintro e w3 ⟨rfl, hlaw3⟩
      clear hlaw hlaw2 hcw hcw2 hia
      go_wp2_with fail
      exact ⟨⟨j + 1, by omega, by go_num, ts.set (xn % 6) x2, by simp [h6], by rw [show (n : Int) + ((j + 1 : Nat) : Int) = n + j + 1 by omega]; exact hlaw3⟩, by simp [intOf]; omega⟩
    · obtain rfl : j = l.length := by omega
      have hlaw1 : Law w m mb B n (10000 + 10 * (0 : Nat)) ts wr := by
        obtain ⟨σ, L, t, cs, fp, h1, h2, h3⟩ := hlaw
        exact ⟨σ, L, t, cs, fp, h1, h2, by omega⟩
      clear hlaw
      go_wp2_with fail
      go_loopw [10] (fun v wi => ∃ i : Nat, i ≤ 6 ∧ v = .int .i64 i ∧ ∃ ts, ts.length = 6 ∧ Law w m mb B n (10000 + 10 * i) ts wi ∧ Over ts i) (fun v _ => 6 - (intOf v).toNat)
      case atStart => exact ⟨0, by omega, rfl, ts, h6, hlaw1, fun _ _ h => absurd h (by omega)⟩
      case round =>
        clear hlaw1 h6
        obtain ⟨i, hi, rfl, ts, h6, hlaw, hov⟩ := hrel
        by_cases hi6 : i < 6
        · go_wp2_with fail
          rw [show decide ((i : Int) < 6) = true by simp; omega]
          go_loopw [11] (fun v wi => ∃ k : Nat, k ≤ 5 ∧ v = .int .i64 k ∧ ∃ ts, ts.length = 6 ∧ Near w m mb B n (10000 + 10 * i + k) ts i (5 - k) wi ∧ Over ts i) (fun v _ => 5 - (intOf v).toNat)
          case atStart => exact ⟨0, by omega, rfl, ts, h6, by simpa using hlaw.near i, hov⟩
          case round =>
            clear hlaw hov h6
            obtain ⟨k, hk, rfl, ts, h6, hnear, hov⟩ := hrel
            rcases hnear.law.pointers (i := i) (by omega) with ⟨hop, c1, c2⟩ | ⟨hop, b, hcs⟩
            · have hlaw' : Law w m mb B n (10000 + 10 * ((i + 1 : Nat) : Int)) ts wr := hnear.law.mono (by omega)
              have hov' := hov.next (by omega) hop
              clear hnear hov
              go_wp2_with fail
              all_goals exact ⟨⟨i + 1, by omega, by go_num, ts, h6, hlaw', hov'⟩, by simp [intOf]; omega⟩
            · have hk5 : k < 5 := by
                rcases Nat.lt_or_ge k 5 with h | h
                · exact h
                · obtain rfl : k = 5 := by omega
                  exact absurd (hnear.over (by omega)) hop
              rcases hcs with ⟨c1, c2⟩ | ⟨c1, c2⟩
              all_goals
                go_wp2_with fail
                refine (law_alone hnear (by omega) hn60 (by omega) hop).mono ?_
                rintro e w3 ⟨rfl, x2, hnear2⟩
                have hov2 := hov.set x2
                have h62 : (ts.set i x2).length = 6 := by simp [h6]
                generalize ts.set i x2 = ts2 at hnear2 hov2 h62
                clear hnear hov c1 c2 hop
                go_wp2_with fail
                have hfin : ∃ k' : Nat, k' ≤ 5 ∧ Value.int .i64 ((k : Int) + 1) = .int .i64 k' ∧ ∃ ts, ts.length = 6 ∧ Near w m mb B n (10000 + 10 * i + k') ts i (5 - k') w3 ∧ Over ts i :=
                  ⟨k + 1, by omega, by go_num, ts2, h62, by rw [show (10000 + 10 * (i : Int) + ((k + 1 : Nat) : Int)) = 10000 + 10 * i + k + 1 by omega, show 5 - (k + 1) = 5 - k - 1 by omega]; exact hnear2, hov2⟩
                exact ⟨hfin, by simp [intOf]; omega⟩
        · obtain rfl : i = 6 := by omega
          obtain ⟨σ, L, t, cs, fp, hring, hinv, ht⟩ := hlaw
          have hperm := inv_over hinv (by rw [h6]; exact hov)
          have hplen := hperm.length_eq
          rw [downTo_length] at hplen
          simp only [List.length_append] at hplen
          have hmk := make_ints n hn60
          have hst := hinv.stk
          have HP := Lib.hid hperm
          clear hov hinv hperm
          go_wp2_with fail
          refine (listed_any w wr m mb σ L t hring.sys hst (by omega)).mono ?_
          rintro e w3 ⟨v, rfl, hsn⟩
          obtain ⟨σ', hs3, hg3⟩ := hsn.sys
          have hrow := hsn.row
          rw [List.take_length] at hrow
          have hheld := Helds2.size hring hsn.mod
          have hm3 := hs3.mod
          have hsz3 := hsn.mod.size
          have hsz0 := hring.sys.mod.size
          clear hs3 hg3 hst hsn hring
          obtain ⟨wb, hwb⟩ : ∃ wb, wb = wr.heap.size := ⟨_, rfl⟩
          rw [← hwb] at hrow hheld hsz3 hsz0
          clear hwb
          obtain ⟨C, hC⟩ : ∃ C, C = w3.heap.size := ⟨_, rfl⟩
          obtain ⟨pv0, cv0, rfl⟩ := ownsRow_form hrow
          have hrest : Rest2 w wb B C n L ts (.slice pv0 L.length cv0) 0 (w3.alloc (.cells (Array.replicate n (.int .i64 0)) 3)) := by
            have hM : Mod w3 (w3.alloc (.cells (Array.replicate n (.int .i64 0)) 3)) [] := (Mod.refl _ _).alloc _
            exact ⟨by simpa using ownsRow_mod hrow hM (by simp), fun b hb => by have := (hrow.lt b hb).2; omega, by rw [hC]; exact Has.new _ _, hheld.mod hM (by simp), hm3.call hM (by simp), hsz0, by simp; omega, by omega⟩
          clear hrow hheld hm3
          go_wp2_with fail
          rw [← hC]
          clear hC hmk
          go_loopw [12, 14] (fun v i wi => ∃ j : Nat, j ≤ 6 ∧ i = .int .i64 j ∧ Rest2 w wb B C n L ts v j wi) (fun _ i _ => 6 - (intOf i).toNat)
          case atStart => exact ⟨0, by omega, rfl, hrest⟩
          case round =>
            clear hrest
            obtain ⟨j, hj, rfl, hrest⟩ := hrel
            by_cases hj6 : j < 6
            · have hjt : j < ts.length := by omega
              obtain ⟨g, hv, hc, hl2, hg⟩ := hrest.held.2 j hjt
              obtain ⟨pa2, cap2, rfl, hcap2⟩ := hl2.form
              have hrl := rest_len L ts j hjt
              rw [show (L ++ ts.flatMap Th.held).length = n by rw [List.length_append]; exact hplen] at hrl
              have hrow := hrest.row
              have hbase := hrest.hi
              have hnext := fun v' w' => hrest.next hjt (v' := v') (w' := w')
              have HN := Lib.hid hnext
              clear hrest hnext
              generalize L ++ (ts.take j).flatMap Th.held = X at *
              generalize ts[j].held = Y at *
              obtain ⟨pv1, cv1, rfl⟩ := ownsRow_form hrow
              have hX1 : X.length ≤ 1000 := by omega
              have hY1 : Y.length ≤ 1000 := by omega
              go_wp2_with (first | (at_builtin; go_must (refine wpList_append_spread _ rfl _ _ 28 rfl 3 i0 (.int .i64 0) 8 Tryd.underlying28 hi0 hz0 hz1 hz2 rfl (by decide) wb _ X rfl hrow hbase hX1 g _ Y rfl hl2 hY1 ?_); intro v' w4 hrow' hM4 hob))
              have hfin := HN.out v' w4 hrow' hM4 hob
              exact ⟨⟨j + 1, by omega, by go_num, hfin⟩, by simp [intOf]; omega⟩
            · obtain rfl : j = 6 := by omega
              have hrow := hrest.row
              have hzero := hrest.zero
              have hne := hrest.ne
              have hmod := hrest.mod
              have hzlo : w.heap.size ≤ C := by
                have h1 := hrest.lo
                have h2 := hrest.hiC
                omega
              rw [show ts.take 6 = ts by rw [← h6]; exact List.take_length] at hrow
              generalize hR : L ++ ts.flatMap Th.held = R at hrow HP
              obtain ⟨pv1, cv1, rfl⟩ := ownsRow_form hrow
              have hRl : R.length = n := by
                have := HP.out.length_eq
                rw [downTo_length] at this
                exact this
              have HRL := Lib.hid hRl
              clear hrest hRl
              go_wp2_with fail
              go_loopw [15] (fun i wi => ∃ j : Nat, j ≤ R.length ∧ i = .int .i64 j ∧ Mod w wi [] ∧ wi.ownsRow wb 3 1 (.slice pv1 R.length cv1) R.length (R.map (Value.int .i64)) ∧ ∃ arr, Has wi C (.cells arr 3) ∧ CountArr arr n (R.take j)) (fun i _ => R.length - (intOf i).toNat)
              case atStart => exact ⟨0, Nat.zero_le _, rfl, hmod, hrow, _, hzero, by simpa using CountArr.new n⟩
              case round =>
                clear hrow hzero hmod
                obtain ⟨j, hj, rfl, hmod, hrow, arr, hA, hcnt⟩ := hrel
                by_cases hjl : j < R.length
                · obtain ⟨gv, y, rfl, hgb, hy, hcy⟩ := ownsRow_cell hrow hjl
                  rw [List.getElem?_map, List.getElem?_eq_getElem hjl] at hy
                  cases hy
                  have hx := mem_downTo (HP.out.mem_iff.1 (List.getElem_mem hjl))
                  have htk : R.take (j + 1) = R.take j ++ [R[j]] := List.take_succ_eq_append_getElem hjl
                  generalize R[j] = x at *
                  obtain ⟨xn, rfl⟩ : ∃ xn : Nat, x = xn := ⟨x.toNat, by omega⟩
                  have hx1 : xn < n := by omega
                  have hx2 : (xn : Int) < n := by omega
                  have hx3 : 0 ≤ (xn : Int) := by omega
                  have HTK := Lib.hid htk
                  have hca := hA.cell xn
                  have hcl : (R.take j).count (xn : Int) ≤ 60 := Nat.le_trans List.count_le_length (by have := HRL.out; simp; omega)
                  rw [hcnt.at_ xn hx1] at hca
                  have hset := hcnt.set hx1
                  generalize (R.take j).count (xn : Int) = q at hca hset hcl
                  have hfz := hA.frozen
                  have hClt := hA.lt
                  have HSET := Lib.hid hset
                  have hjn : (j : Int) < R.length := by omega
                  have hRn : R.length ≤ 60 := by have := HRL.out; omega
                  clear htk hx hset hcnt
                  go_wp2_with fail
                  go_roundw
                  case rel =>
                    have hM : Mod wr (wr.setCell ⟨C, xn, none⟩ (.int .i64 ((q : Int) + 1))) [C] := (Mod.refl _ _).setCell (.inl (by simp)) _
                    have hfin : ∃ j' : Nat, j' ≤ R.length ∧ Value.int .i64 ((j : Int) + 1) = .int .i64 j' ∧ Mod w (wr.setCell ⟨C, xn, none⟩ (.int .i64 ((q : Int) + 1))) [] ∧ (wr.setCell ⟨C, xn, none⟩ (.int .i64 ((q : Int) + 1))).ownsRow wb 3 1 (.slice (some ⟨gv, 0, none⟩) R.length cv1) R.length (R.map (Value.int .i64)) ∧ ∃ arr, Has (wr.setCell ⟨C, xn, none⟩ (.int .i64 ((q : Int) + 1))) C (.cells arr 3) ∧ CountArr arr n (R.take j') :=
                      ⟨j + 1, by omega, by go_num, hmod.call hM (fun b hb => by simp at hb; subst hb; exact .inr hzlo), ownsRow_mod hrow hM (fun b hb => by simpa using hne b hb), _, hA.set_same _ _, by rw [HTK.out]; exact HSET.out⟩
                    first | exact hfin | ((repeat apply Exists.intro); exact ⟨hfin, rfl⟩)
                  case measure => simp [intOf]; omega
                · obtain rfl : j = R.length := by omega
                  rw [List.take_length] at hcnt
                  clear hrow
                  go_wp2_with fail
                  go_loopw [16] (fun i wi => ∃ j : Nat, j ≤ n ∧ i = .int .i64 j ∧ Mod w wi [] ∧ Has wi C (.cells arr 3)) (fun i _ => n - (intOf i).toNat)
                  case atStart => exact ⟨0, Nat.zero_le _, rfl, hmod, hA⟩
                  case round =>
                    clear hmod hA
                    obtain ⟨j, hj, rfl, hmod, hA⟩ := hrel
                    by_cases hjn : j < n
                    · have hca := hA.cell j
                      rw [hcnt.at_ j hjn] at hca
                      have hc1 : R.count (j : Int) = 1 := by
                        have hnd : R.Nodup := HP.out.nodup_iff.2 (downTo_nodup n)
                        exact count_one _ _ hnd (HP.out.mem_iff.2 (mem_downTo_of (by omega) (by omega)))
                      rw [hc1] at hca
                      have hjn' : (j : Int) < n := by omega
                      go_wp2_with fail
                      exact ⟨⟨j + 1, by omega, by go_num, hmod, hA⟩, by simp [intOf]; omega⟩
                    · obtain rfl : j = n := by omega
                      go_wp2_with fail
                      refine (lives_any w _ hf hmod).mono ?_
                      rintro e w9 ⟨rfl, hM9⟩
                      go_wp2
                      go_ret
                      exact ⟨rfl, hM9⟩

set_option maxRecDepth 100000 in
set_option maxHeartbeats 1000000 in
theorem once_long (w : World) (hf : FieldsAt w) (mn : Nat) (hmn : mn < 256) (pa : Option Addr) (cap len : Nat) (h : 600 < len) :
    Calls Tryd.prog 3 #[.int .u8 mn, .slice pa len cap] w fun e w' => e = .returned (.bool true) ∧ Mod w w' [] := by
  have h' : (600 : Int) < (len : Int) := by omega
  go_enter Tryd.func3, Tryd.ntmps3
  go_wp2_with fail
  obtain ⟨n, hn⟩ : ∃ n : Nat, (mn : Int) % 61 = n := ⟨mn % 61, by omega⟩
  rw [hn]
  have hn60 : n ≤ 60 := by omega
  clear hn
  refine (filled_any w hf n hn60).mono ?_
  rintro e w1 ⟨m, mb, σ0, rfl, hs, hst⟩
  go_wp2_with fail
  refine (lives_any w _ hf hs.mod).mono ?_
  rintro e w3 ⟨rfl, hM⟩
  go_wp2
  go_ret
  exact ⟨rfl, hM⟩

end Go.Proofs.YtlecajmnmhpjkaaDoor.law07
