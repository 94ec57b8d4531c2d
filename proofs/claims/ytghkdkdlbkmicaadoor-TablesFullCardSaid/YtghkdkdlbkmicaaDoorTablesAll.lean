/- TablesFull: the walk. -/
import Derived.Test.YtghkdkdlbkmicaaDoorTablesWalk
namespace Go.Proofs.YtghkdkdlbkmicaaDoor.law10
open Go.RowKit

set_option maxRecDepth 100000 in
set_option maxHeartbeats 4000000 in
theorem full_walk (w : World) (hf : FieldsAt w) (a b : Nat) (ha : (a : Int) < 256) (hb : (b : Int) < 256) (pa : Option Addr) (cap : Nat) (l : List Int) (hr : ∀ x ∈ l, 0 ≤ x ∧ x < 256) (hl : l.length ≤ 20)
    (hc : ∀ i (hi : i < l.length), ∃ b off, pa = some ⟨b, off, none⟩ ∧ w.cell? ⟨b, off + i, none⟩ = some (.int .u8 l[i])) (was : Int) (s0 : 0 ≤ was) (S1 : Hid (was < 18446744073709551616)) :
    Calls Tryd.prog 3 #[.agg #[.int .u8 a, .int .u8 b], .slice pa l.length cap, .int .u64 was] w fun e w' => e = .returned (.bool true) ∧ Mod w w' [] := by
  have HC := Lib.hid hc
  have HR := Lib.hid hr
  clear hc hr
  have hl20 : (l.length : Int) ≤ 20 := by omega
  go_enter Tryd.func3, Tryd.ntmps3
  go_wp2_with fail
  obtain ⟨n, hn⟩ : ∃ n : Nat, (a : Int) % 4 + 1 = n := ⟨a % 4 + 1, by omega⟩
  have hn4 : n ≤ 4 := by omega
  have hn1 : 1 ≤ n := by omega
  rw [hn]
  clear hn
  obtain ⟨B0, hB0⟩ : ∃ B0, B0 = w.heap.size := ⟨_, rfl⟩
  have hbox := Has.new_at w (.cells #[.int .u8 a, .int .u8 b] 22) B0 hB0
  have hMb : Mod w (w.alloc (.cells #[.int .u8 a, .int .u8 b] 22)) [] := (Mod.refl _ _).alloc _
  rw [← hB0]
  clear hB0
  generalize w.alloc (.cells #[.int .u8 a, .int .u8 b] 22) = w0 at hbox hMb ⊢
  refine (table_any w w0 hf hMb n hn4).mono ?_
  rintro e w1 ⟨m, mb, rfl, hs, hM1, l1, l2⟩
  replace hbox := hbox.mod hM1 (by simp)
  have c_hbox_0 := hbox.cell 0; have c_hbox_1 := hbox.cell 1; simp only [getRules] at c_hbox_0 c_hbox_1
  have hn1' : (n : Int) + 1 ≠ 0 := by omega
  obtain ⟨shut, hsh⟩ : ∃ shut : Nat, (b : Int) % ((n : Int) + 1) = shut := ⟨b % (n + 1), by simp⟩
  have hsn : shut ≤ n := by
    have := Int.emod_lt_of_pos (b : Int) (show (0 : Int) < (n : Int) + 1 by omega)
    omega
  have HSH := Lib.hid hsh
  clear hsh hM1 hbox l1 l2 hMb
  have hmk := make16
  obtain ⟨room, hroom⟩ : ∃ room, room = 4 * n - (if shut < n then 4 else 0) := ⟨_, rfl⟩
  have hpl : ∀ i, i < room → posOf shut i < 4 * n ∧ posOf shut i / 4 ≠ shut := fun i hi => pos_lt (by rw [← hroom]; exact hi) hsn
  have hpf : 4 * n ≤ posOf shut room := by rw [hroom]; exact pos_full hsn
  have HPL := Lib.hid hpl
  have HPF := Lib.hid hpf
  have HROOM := Lib.hid hroom
  clear hpl hpf hroom
  go_wp2_with fail
  case' _ =>
    have hlt : (b : Int) % ((n : Int) + 1) < n := by assumption
    rw [HSH.out] at hlt ⊢
    refine (block_any w1 (hf.mod hs.mod (by simp)) 0 true (by omega) (by omega)).mono ?_
    rintro e w2 ⟨rfl, k2, rfl⟩
    replace hs := hs.keep0 ((Mod.refl _ []).drewN k2)
    generalize w1.drewN k2 = w2 at hs ⊢
    clear c_hbox_0 c_hbox_1
    have hmay : mayA 7 shut 0 = true := by
      simp [mayA, roomAt, roomF]
      omega
    go_wp2_with fail
    refine (gsys_store hs 7 shut 0 4294967296 (by omega) (by omega) hmay).mono ?_
    rintro e w3 ⟨rfl, hs3, hM3⟩
    have hst : St (gput (gput (fun _ _ _ => 0) 5 0 0 n) 7 shut 0 4294967296) n shut 0 := St.first n shut hn4 hsn _ (fun a b c => by
      unfold gput
      by_cases e : a = 7 ∧ b = shut ∧ c = 0
      · rw [if_pos e, if_pos ⟨e.1, e.2.1, e.2.2, by omega⟩]
      · rw [if_neg e, if_neg (show ¬ (a = 7 ∧ b = shut ∧ c = 0 ∧ shut < n) from fun hh => e ⟨hh.1, hh.2.1, hh.2.2.1⟩)])
    clear hs hM3
    generalize gput (gput (fun _ _ _ => 0) 5 0 0 n) 7 shut 0 4294967296 = g3 at hs3 hst
    have hrm : (n : Int) * 4 - 4 = room := by
      have := HROOM.out
      rw [if_pos (by omega)] at this
      omega
    go_wp2_with fail
    try rw [hrm]
    clear hrm hlt
    obtain ⟨C, hC⟩ : ∃ C, C = w3.heap.size := ⟨_, rfl⟩
    rw [← hC]
    have hA := Has.new_at w3 (.cells (Array.replicate 16 (.bool false)) 4) C hC
    have hcm : C ≠ m ∧ C ≠ mb ∧ w.heap.size ≤ C := by
      have := hs3.lo
      omega
    replace hs3 := hs3.keep0 ((Mod.refl _ []).alloc (.cells (Array.replicate 16 (.bool false)) 4))
    generalize w3.alloc (.cells (Array.replicate 16 (.bool false)) 4) = W at hA hs3 ⊢
    clear hC
  rotate_left
  case' _ =>
    have hs3 := hs
    clear hs
    have hlt : (n : Int) ≤ (b : Int) % ((n : Int) + 1) := by assumption
    rw [HSH.out] at hlt ⊢
    have hst : St (gput (fun _ _ _ => 0) 5 0 0 n) n shut 0 := St.first n shut hn4 hsn _ (fun a b c => by
      unfold gput
      rw [if_neg (show ¬ (a = 7 ∧ b = shut ∧ c = 0 ∧ shut < n) from fun hh => by omega)])
    have hrm : (n : Int) * 4 = room := by
      have := HROOM.out
      rw [if_neg (by omega)] at this
      omega
    go_wp2_with fail
    try rw [hrm]
    clear hrm hlt
    obtain ⟨C, hC⟩ : ∃ C, C = w1.heap.size := ⟨_, rfl⟩
    rw [← hC]
    have hA := Has.new_at w1 (.cells (Array.replicate 16 (.bool false)) 4) C hC
    have hcm : C ≠ m ∧ C ≠ mb ∧ w.heap.size ≤ C := by
      have := hs3.lo
      omega
    replace hs3 := hs3.keep0 ((Mod.refl _ []).alloc (.cells (Array.replicate 16 (.bool false)) 4))
    generalize w1.alloc (.cells (Array.replicate 16 (.bool false)) 4) = W at hA hs3 ⊢
    clear hC
  all_goals
    clear hmk
    generalize decide ((shut : Int) < (n : Int)) = vb
    replace hst := St.begin hst
    have hseen := SeenT.begin shut
    go_loopw [12] (fun v wr => ∃ i : Nat, i ≤ room ∧ v = .int .i64 i ∧ ∃ g arr, GSys w wr m mb g ∧ St g n shut (posOf shut i) ∧ Has wr C (.cells arr 4) ∧ SeenT arr shut (posOf shut i)) (fun v _ => 20 - (intOf v).toNat)
    case atStart => exact ⟨0, by omega, rfl, _, _, hs3, hst, hA, hseen⟩
    case round =>
      clear hs3 hst hA hseen
      obtain ⟨i, hi, rfl, g, arr, hs, hst, hA, hseen⟩ := hrel
      by_cases hir : i < room
      · have hp := HPL.out i hir
        have hset := hseen.set (by omega)
        have hnext := fun (g' : Int → Int → Int → Int) (h : St g' n shut (posOf shut i + 1)) => St.onward h
        have hone := hseen.at_ (posOf shut i) (by omega)
        rw [show seenB shut (posOf shut i) (posOf shut i) = false by simp [seenB]] at hone
        generalize hQQ : posOf shut (i + 1) = Q at hset hnext
        have HQ := Lib.hid hQQ
        clear hQQ
        generalize posOf shut i = P at *
        have HSET := Lib.hid hset
        have HNEXT := Lib.hid hnext
        have hi20 : (i : Int) < 1000000 := by have := HROOM.out; omega
        clear hset hnext hseen
        go_wp2_with fail
        refine (joinedOver_any hs hst i (by omega) hi20 was s0 S1 hp.1 hp.2).mono ?_
        rintro e w4 ⟨rfl, ⟨g4, hs4, hst4, hz4, _⟩, hM4⟩
        replace hA := hA.mod hM4 (by simp; omega)
        have hca := hA.cell P
        rw [hone] at hca
        have hfz := hA.frozen
        have hP16 : (P : Int) < 16 := by omega
        have hPn : (P : Int) < n * 4 := by omega
        have hPs : ¬ (P : Int) / 4 = shut := by omega
        have hCl := hA.lt
        have HZ4 := Lib.hid hz4
        have hP0 : ¬ (P : Int) < 0 := by omega
        have hPn' : ¬ (n : Int) * 4 ≤ P := by omega
        clear hs hst hM4 hz4 hone hp
        generalize (P / 4 + P % 4 + 13 : Nat) = N
        have hb1 : ((P : Int) / 4 == (shut : Int)) = false := by simpa using hPs
        have hb2 : ((P : Int).tdiv 4 == (shut : Int)) = false := by
          rw [Int.tdiv_eq_ediv_of_nonneg (by omega)]
          exact hb1
        have hd1 : decide ((P : Int) < 0) = false := by simp
        have hd2 : decide ((n : Int) * 4 ≤ P) = false := by
          simp
          omega
        clear hPs hP0 hPn' hPn
        go_wp2_with fail
        have hMf : Mod w4 (w4.setCell ⟨C, P, none⟩ (.bool true)) [C] := (Mod.refl _ _).setCell (.inl (by simp)) _
        replace hA := hA.set_same P (.bool true)
        replace hs4 := hs4.keep hMf (by simp; omega) (by simp; omega) (by simp; omega)
        generalize w4.setCell ⟨C, P, none⟩ (.bool true) = w5 at hA hs4 ⊢
        clear hMf hca hfz hCl hb1 hb2 hd1 hd2
        go_loopw [16] (fun v wr => ∃ f : Nat, 1 ≤ f ∧ f ≤ 10 ∧ v = .int .i64 f ∧ GSys w wr m mb g4 ∧ Has wr C (.cells (arr.setIfInBounds P (.bool true)) 4)) (fun v _ => 10 - (intOf v).toNat)
        case atStart => exact ⟨1, by omega, by omega, rfl, hs4, hA⟩
        case round =>
          clear hs4 hA
          obtain ⟨f, hf1, hf10, rfl, hs4, hA⟩ := hrel
          by_cases hf : f < 10
          · have hfI : (f : Int) < 10 := by omega
            go_wp2_with fail
            refine (of_any wr P f).mono ?_
            rintro e w6 ⟨rfl, hM6⟩
            replace hs4 := hs4.keep0 hM6
            replace hA := hA.mod hM6 (by simp)
            go_wp2_with fail
            refine (gsys_load hs4 8 P f).mono ?_
            rintro e w7 ⟨rfl, hs7, hM7⟩
            replace hA := hA.mod hM7 (by simp; omega)
            rw [show g4 8 P f = 0 from HZ4.out f (by omega) (by omega)]
            clear hs4 hM6 hM7
            go_wp2_with fail
            exact ⟨⟨f + 1, by omega, by omega, by go_num, hs7, hA⟩, by simp [intOf]; omega⟩
          · obtain rfl : f = 10 := by omega
            have hgo := HNEXT.out g4 hst4
            have hst' := HSET.out
            rw [← HQ.out] at hgo hst'
            have hmeas : i + 1 ≤ 20 := by have := HROOM.out; omega
            go_wp2_with fail
            go_roundw
            case rel =>
              have hfin : ∃ i' : Nat, i' ≤ room ∧ Value.int .i64 ((i : Int) + 1) = .int .i64 i' ∧ ∃ g arr, GSys w wr m mb g ∧ St g n shut (posOf shut i') ∧ Has wr C (.cells arr 4) ∧ SeenT arr shut (posOf shut i') :=
                ⟨i + 1, by omega, by go_num, g4, _, hs4, hgo, hA, hst'⟩
              first | exact hfin | ((repeat apply Exists.intro); exact ⟨hfin, rfl⟩)
            case measure => simp [intOf]; omega
      · obtain rfl : i = room := by omega
        have hQ := HPF.out
        generalize posOf shut i = Q at *
        go_wp2_with fail
        refine (joined_full hs hst 99 (by omega) (by omega) hQ).mono ?_
        rintro e w4 ⟨rfl, hs4, hM4⟩
        replace hA := hA.mod hM4 (by simp; omega)
        clear hs hM4
        go_wp2_with fail
        go_loopw [20] (fun v wr => ∃ j : Nat, j ≤ l.length ∧ v = .int .i64 j ∧ ∃ g, GSys w wr m mb g ∧ St g n shut Q ∧ Has wr C (.cells arr 4)) (fun v _ => 20 - (intOf v).toNat)
        case atStart => exact ⟨0, by omega, rfl, _, hs4, hst, hA⟩
        case round =>
          clear hs4 hst hA
          obtain ⟨j, hj, rfl, g5, hs, hst, hA⟩ := hrel
          by_cases hjl : j < l.length
          · obtain ⟨ab, ao, rfl, hcx⟩ := HC.out j hjl
            have hx01 := HR.out l[j] (List.getElem_mem _)
            generalize l[j] = x at hcx hx01
            obtain ⟨xn, rfl⟩ : ∃ xn : Nat, x = xn := ⟨x.toNat, by omega⟩
            have hx : (xn : Int) < 256 := by omega
            clear hx01
            have hcw := cell_mod hcx hs.mod (by simp)
            have hjl' : (j : Int) < l.length := by omega
            have hn40 : (n : Int) * 4 ≠ 0 := by omega
            obtain ⟨t, ht⟩ : ∃ t : Nat, (xn : Int) % ((n : Int) * 4) = t := ⟨xn % (n * 4), by simp⟩
            have ht4 : t < 4 * n := by
              have := Int.emod_lt_of_pos (xn : Int) (show (0 : Int) < (n : Int) * 4 by omega)
              omega
            have HT := Lib.hid ht
            have hone := hseen.at_ t (by omega)
            clear ht
            go_wp2_with fail
            rw [HT.out]
            clear HT hcw hcx
            by_cases hts : t / 4 = shut
            · rw [show seenB shut Q t = false by simp [seenB, hts]] at hone
              refine (left_none hs (by omega) (Decidable.not_not.1 fun hh => ((hst.own t (by omega)).1 hh).2 hts)).mono ?_
              rintro e w5 ⟨rfl, hs5, hM5⟩
              replace hA := hA.mod hM5 (by simp; omega)
              have hca := hA.cell t
              rw [hone] at hca
              have ht16 : (t : Int) < 16 := by omega
              have hCl := hA.lt
              clear hs hM5
              go_wp2_with fail
              exact ⟨⟨j + 1, by omega, by go_num, g5, hs5, hst, hA⟩, by simp [intOf]; omega⟩
            · rw [show seenB shut Q t = true by simp [seenB, hts]; omega] at hone
              refine (left_one hs hst (by omega) ⟨by omega, hts⟩).mono ?_
              rintro e w5 ⟨rfl, ⟨g6, hs5, hgone⟩, hM5⟩
              replace hA := hA.mod hM5 (by simp; omega)
              have hca := hA.cell t
              rw [hone] at hca
              have ht16 : (t : Int) < 16 := by omega
              have hCl := hA.lt
              clear hs hM5 hst
              go_wp2_with fail
              refine (joined_again hs5 hgone 5 (by omega) (by omega) hQ ht4 hts).mono ?_
              rintro e w6 ⟨rfl, ⟨g7, hs6, hst6⟩, hM6⟩
              replace hA := hA.mod hM6 (by simp; omega)
              clear hs5 hgone hM6 hca hCl
              go_wp2_with fail
              refine (joined_full hs6 hst6 5 (by omega) (by omega) hQ).mono ?_
              rintro e w7 ⟨rfl, hs7, hM7⟩
              replace hA := hA.mod hM7 (by simp; omega)
              clear hs6 hM7
              go_wp2_with fail
              exact ⟨⟨j + 1, by omega, by go_num, g7, hs7, hst6, hA⟩, by simp [intOf]; omega⟩
          · obtain rfl : j = l.length := by omega
            go_wp2_with fail
            refine (lives_any w _ hf hs.mod).mono ?_
            rintro e w9 ⟨rfl, hM9⟩
            go_wp2
            go_ret
            exact ⟨rfl, hM9⟩

set_option maxRecDepth 100000 in
set_option maxHeartbeats 1000000 in
theorem full_long (w : World) (hf : FieldsAt w) (a b : Nat) (pa : Option Addr) (cap len : Nat) (h : 20 < len) (was : Int) :
    Calls Tryd.prog 3 #[.agg #[.int .u8 a, .int .u8 b], .slice pa len cap, .int .u64 was] w fun e w' => e = .returned (.bool true) ∧ Mod w w' [] := by
  have h' : (20 : Int) < (len : Int) := by omega
  go_enter Tryd.func3, Tryd.ntmps3
  go_wp2_with fail
  have hM : Mod w (w.alloc (.cells #[.int .u8 a, .int .u8 b] 22)) [] := (Mod.refl _ _).alloc _
  refine (lives_any w _ hf hM).mono ?_
  rintro e w3 ⟨rfl, hM3⟩
  go_wp2
  go_ret
  exact ⟨rfl, hM3⟩

/-- The law, whatever the input. -/
theorem all (w : World) (hf : FieldsAt w) (a b : Nat) (ha : a < 256) (hb : b < 256) (pa : Option Addr) (cap : Nat) (l : List Int) (hr : ∀ x ∈ l, 0 ≤ x ∧ x < 256)
    (hc : ∀ i (hi : i < l.length), ∃ b off, pa = some ⟨b, off, none⟩ ∧ w.cell? ⟨b, off + i, none⟩ = some (.int .u8 l[i])) (was : Int) (s0 : 0 ≤ was) (s1 : was < 18446744073709551616) :
    Calls Tryd.prog 3 #[.agg #[.int .u8 a, .int .u8 b], .slice pa l.length cap, .int .u64 was] w fun e w' => e = .returned (.bool true) ∧ Mod w w' [] := by
  rcases Nat.lt_or_ge 20 l.length with h | h
  · exact full_long w hf a b pa cap l.length h was
  · exact full_walk w hf a b (by omega) (by omega) pa cap l hr h hc was s0 (Lib.hid s1)

end Go.Proofs.YtghkdkdlbkmicaaDoor.law10
