/- FreesOnce: the list is filled, is read, and the threads' slots are told apart. -/
import Derived.Test.YtlecajmnmhpjkaaDoorThread
import Derived.LoopTactic
import Derived.Deep.Cut
import Derived.Laws.MakeOwn
namespace Go.Proofs.YtlecajmnmhpjkaaDoor.law07
open Go.RowKit

/-- n - 1, .., 0. -/
def downTo : Nat → List Int
  | 0 => []
  | n + 1 => (n : Int) :: downTo n
theorem mem_downTo {n : Nat} {s : Int} (h : s ∈ downTo n) : 0 ≤ s ∧ s < n := by
  induction n with
  | zero => cases h
  | succ n ih =>
    rcases List.mem_cons.1 h with rfl | h
    · omega
    · have := ih h
      omega

set_option maxRecDepth 100000 in
set_option maxHeartbeats 2000000 in
theorem filled_any (w : World) (hf : FieldsAt w) (n : Nat) (hn : n ≤ 60) :
    Calls Tryd.prog 5 #[.int .i64 n] w fun e w' => ∃ m mb σ, e = .returned (.tuple #[.pointer (some ⟨m, 0, none⟩), .bool true]) ∧ Sys w w' m mb σ ∧ Stk σ (downTo n) n := by
  go_enter Tryd.func5, Tryd.ntmps5
  go_wp2_with fail
  refine (sys_new hf (Mod.refl _ _)).mono ?_
  rintro e w1 ⟨m, mb, rfl, hs, hM, g1, g2⟩
  clear hM g1 g2
  go_wp2_with fail
  go_loopw [5] (fun i wi => ∃ k : Nat, k ≤ n ∧ i = .int .i64 k ∧ ∃ σ, Sys w wi m mb σ ∧ Stk σ (downTo k) k) (fun i _ => n - (intOf i).toNat)
  case atStart => exact ⟨0, Nat.zero_le _, rfl, MS.new, hs, Stk.new⟩
  case round =>
    clear hs
    obtain ⟨k, hk, rfl, σ, hs, hst⟩ := hrel
    by_cases hlt : k < n
    · have hms : mayS (k : Int) = true := by
        simp [mayS]
        omega
      have h3 := push3 hst hms (fun h => by have := mem_downTo h; omega) (by omega)
      have H3 := Lib.hid h3.1
      have h4 := h3.2
      clear h3
      go_wp2_with fail
      refine (PushRun.new hs hms).mono ?_
      rintro e w2 ⟨b, rfl, lo, n1, n2, n3, hrun⟩
      go_wp2_with fail
      refine (hrun.step lo n1 n2).mono ?_
      rintro e w3 ⟨rfl, hrun1⟩
      clear hrun
      go_wp2_with fail
      refine (hrun1.step lo n1 n2).mono ?_
      rintro e w4 ⟨rfl, hrun2⟩
      clear hrun1
      go_wp2_with fail
      refine (hrun2.step lo n1 n2).mono ?_
      rintro e w5 ⟨rfl, hrun3⟩
      clear hrun2
      rw [show ((pushIt (k : Int) σ (0 + 1 + 1 + 1)).1.line == 0) = true by simp only [Nat.zero_add, Nat.reduceAdd, h4]; rfl]
      have hs5 : Sys w w5 m mb (pushIt (k : Int) σ 3).2 := hrun3.sys
      clear hrun3 h4
      go_wp2_with fail
      exact ⟨⟨k + 1, by omega, by go_num, _, hs5, by simpa [downTo] using H3.out⟩, by simp [intOf]; omega⟩
    · obtain rfl : k = n := by omega
      go_wp2_with fail
      go_ret2
      exact ⟨m, mb, σ, rfl, hs, hst⟩

def lenOf : Value → Nat
  | .slice _ n _ => n
  | _ => 0
/-- What a walk along the list has behind it. -/
structure Seen1 (w0 w wr : World) (m mb : Nat) (σ : MS) (L : List Int) (v : Value) (k : Nat) : Prop where
  sys : ∃ σ', Sys w0 wr m mb σ' ∧ ∀ a b c, σ'.g a b c = σ.g a b c
  row : wr.ownsRow w.heap.size 3 1 v k ((L.take k).map (Value.int .i64))
  mod : Mod w wr [m]

set_option maxRecDepth 100000 in
set_option maxHeartbeats 2000000 in
theorem listed_any (w0 w : World) (m mb : Nat) (σ : MS) (L : List Int) (t : Int) (hs : Sys w0 w m mb σ) (hst : Stk σ L t) (hL : L.length ≤ 200) :
    Calls Tryd.prog 9 #[.pointer (some ⟨m, 0, none⟩)] w fun e w' => ∃ v, e = .returned (.tuple #[v, .bool true]) ∧ Seen1 w0 w w' m mb σ L v L.length := by
  obtain ⟨i0, hi, hz0, hz1, hz2⟩ := info_parts (P := Tryd.prog) (e := 3) (z := .int .i64 0) (size := 1) (bytes := 8) (by kernel_rfl)
  have hml := hs.mem.lt
  go_enter Tryd.func9, Tryd.ntmps9
  go_wp2_with fail
  refine (sys_load hs 0 0 0).mono ?_
  rintro e w1 ⟨rfl, hs1, hM1⟩
  go_wp2_with fail
  refine (sys_asHead hs1 _ (hs.mem.range 0 0 0).1 (hs.mem.range 0 0 0).2).mono ?_
  rintro e w2 ⟨rfl, hs2, hM2⟩
  rw [hst.top]
  have hst0 : Seen1 w0 w w2 m mb σ L (.slice none 0 0) 0 := ⟨⟨_, hs2, fun _ _ _ => rfl⟩, by simpa using World.ownsRow_nil _ _ _ _, hM1.call hM2 (by simp)⟩
  clear hs1 hs2 hM1 hM2
  generalize hT0 : topOf L = s0
  have HT0 := Lib.hid hT0
  clear hT0
  go_wp2_with fail
  go_loopw [4, 5] (fun v s wi => ∃ k : Nat, k ≤ L.length ∧ s = .int .i64 (topOf (L.drop k)) ∧ lenOf v = k ∧ Seen1 w0 w wi m mb σ L v k) (fun v _ _ => L.length - lenOf v)
  case atStart => exact ⟨0, Nat.zero_le _, by simp [HT0.out], rfl, hst0⟩
  case round =>
    clear hst0
    obtain ⟨k, hk, rfl, hlv, hsn⟩ := hrel
    obtain ⟨pv, cv, rfl⟩ := ownsRow_form hsn.row
    by_cases hlt : k < L.length
    · have hx : L.drop k = L[k] :: L.drop (k + 1) := List.drop_eq_getElem_cons hlt
      have hgk := List.getElem?_eq_getElem hlt
      have htk : L.take (k + 1) = L.take k ++ [L[k]] := List.take_succ_eq_append_getElem hlt
      have hms := hst.valid L[k] (List.getElem_mem _)
      rw [hx]
      simp only [topOf]
      generalize L[k] = x at *
      have HX := Lib.hid hx
      have HT := Lib.hid htk
      have hlk := hst.link k x hgk
      have HLK := Lib.hid hlk
      clear hx htk hgk hlk
      have hx0 : 0 ≤ x := by
        simp [mayS] at hms
        exact hms.1
      have hk256 : (k : Int) ≤ 256 := by omega
      obtain ⟨σ', hs', hg'⟩ := hsn.sys
      have hsz := hsn.mod.size
      have HL := Lib.hid hlv
      clear hms hlv
      go_wp2_with (first | (at_builtin; go_must (refine wpList_append_own _ rfl _ _ 28 rfl w.heap.size 3 i0 (.int .i64 0) 1 8 Tryd.underlying28 hi hz0 hz1 hz2 rfl (by decide) _ _ _ rfl (hsn.row.alloc _) ⟨wr.heap.size, 0, none⟩ 1 1 [.int .i64 x] rfl rfl (cell_one_new _ _ _) (fun x hx => by simp at hx; subst hx; rfl) (by unfold maxLen; omega) (by omega) (by simp; omega) ?_); intro v' w3 hown' hgrow hnil))
      have hB : ∀ b ∈ (Value.slice pv k cv).ownBlock.toList, w.heap.size ≤ b := fun b hb => (hsn.row.lt b (by simpa using hb)).1
      have hM3 : Mod wr w3 (Value.slice pv k cv).ownBlock.toList := ((Mod.refl _ _).alloc _).call (Mod.of_grown hgrow) (fun _ h => .inl h)
      have hlm := hs.mem.ltb
      have hw := hs.mod.size
      have hs3 : Sys w0 w3 m mb σ' := hs'.keep hM3 (fun b hb => by have := hB b hb; omega) (fun hb => by have := hB m hb; omega) (fun hb => by have := hB mb hb; omega)
      refine (sys_load hs3 9 x 2).mono ?_
      rintro e w4 ⟨rfl, hs4, hM4⟩
      have hown4 := ownsRow_mod hown' hM4 (fun q hq => by have := (hown'.lt q hq).1; simp; omega)
      clear hown' hnil
      go_wp2_with fail
      refine (sys_asHead hs4 _ (hs.mem.range 9 x 2).1 (hs.mem.range 9 x 2).2).mono ?_
      rintro e w5 ⟨rfl, hs5, hM5⟩
      rw [show slotW (σ.g 9 x 2) = topOf (L.drop (k + 1)) from HLK.out]
      have hown5 := ownsRow_mod hown4 hM5 (fun q hq => by simp)
      have hfin : Seen1 w0 w w5 m mb σ L v' (k + 1) := ⟨⟨_, hs5, fun a b c => hg' a b c⟩, by rw [HT.out]; simpa using hown5, ((hsn.mod.call hM3 (fun b hb => .inr (hB b hb))).call hM4 (by simp)).call hM5 (by simp)⟩
      obtain ⟨pv2, cv2, rfl⟩ := ownsRow_form hfin.row
      clear hown4 hown5 hs4 hs5 hM4 hM5 hM3 hgrow hs3
      generalize hy : topOf (L.drop (k + 1)) = y
      have HY := Lib.hid hy
      clear hy
      go_wp2_with fail
      exact ⟨⟨k + 1, by omega, by rw [← HY.out]; rfl, rfl, hfin⟩, by simp only [lenOf]; omega⟩
    · obtain rfl : k = L.length := by omega
      rw [List.drop_length]
      simp only [topOf]
      go_wp2_with fail
      go_ret2
      exact ⟨_, rfl, hsn⟩

theorem made_one (v : Value) (n : Nat) : madeCells #[v] (n * 1) = Array.replicate n v := by
  apply Array.ext
  · simp [madeCells]
  · intro i h1 h2
    simp [madeCells, Nat.mod_one]
theorem make_bools (n : Nat) (h : n ≤ 60) (w : World) : (Instr.makeSlice 47 (.int .i64 n) (.int .i64 n)).run Tryd.prog w = .ok (.slice (some ⟨w.heap.size, 0, none⟩) n n) (w.alloc (.cells (Array.replicate n (.bool false)) 4)) := by
  obtain ⟨i0, hi, hz0, hz1, hz2⟩ := info_parts (P := Tryd.prog) (e := 4) (z := .bool false) (size := 1) (bytes := 1) (by kernel_rfl)
  have hr := run_make (P := Tryd.prog) w 47 4 i0 (.bool false) Tryd.underlying47 hi hz0 .i64 .i64 n n (by omega) (by omega) (by rw [hz2]; omega) (by omega)
  rw [hr, hz1]
  simp only [Int.toNat_natCast]
  rw [show (Value.bool false).cells = #[Value.bool false] from rfl, made_one]
theorem make_ints (n : Nat) (h : n ≤ 60) (w : World) : (Instr.makeSlice 28 (.int .i64 n) (.int .i64 n)).run Tryd.prog w = .ok (.slice (some ⟨w.heap.size, 0, none⟩) n n) (w.alloc (.cells (Array.replicate n (.int .i64 0)) 3)) := by
  obtain ⟨i0, hi, hz0, hz1, hz2⟩ := info_parts (P := Tryd.prog) (e := 3) (z := .int .i64 0) (size := 1) (bytes := 8) (by kernel_rfl)
  have hr := run_make (P := Tryd.prog) w 28 3 i0 (.int .i64 0) Tryd.underlying28 hi hz0 .i64 .i64 n n (by omega) (by omega) (by rw [hz2]; omega) (by omega)
  rw [hr, hz1]
  simp only [Int.toNat_natCast]
  rw [show (Value.int .i64 0).cells = #[Value.int .i64 0] from rfl, made_one]

/-- Which of n slots have been seen. -/
structure SeenArr (arr : Array Value) (n : Nat) (H : List Int) : Prop where
  size : arr.size = n
  at_ : ∀ j, j < n → arr[j]? = some (.bool (H.contains (j : Int)))
theorem SeenArr.new (n : Nat) : SeenArr (Array.replicate n (.bool false)) n [] := ⟨by simp, fun j hj => by simp [hj]⟩
theorem SeenArr.set {arr : Array Value} {n : Nat} {H : List Int} (h : SeenArr arr n H) {s : Nat} (hs : s < n) : SeenArr (arr.setIfInBounds s (.bool true)) n (H ++ [(s : Int)]) := by
  refine ⟨by simpa using h.size, fun j hj => ?_⟩
  rw [Array.getElem?_setIfInBounds]
  have hsz := h.size
  by_cases e : s = j
  · subst e
    rw [if_pos rfl, if_pos (by omega)]
    simp
  · rw [if_neg e, h.at_ j hj]
    congr 2
    rw [Bool.eq_iff_iff]
    simp
    intro e'
    omega

/-- The rows of the threads, by the first cell of each three. -/
def Helds (w : World) (B : Nat) (ts : List Th) : Prop := ∀ i (h : i < ts.length), ∃ g hv, w.cell? ⟨B, i * 3, none⟩ = some hv ∧ Lies w g hv ts[i].held
theorem Helds.mod0 {w w' : World} {B : Nat} {ts : List Th} (h : Helds w B ts) (hM : Mod w w' []) : Helds w' B ts := by
  intro i hi
  obtain ⟨g, hv, h1, h2⟩ := h i hi
  exact ⟨g, hv, cell_mod h1 hM (by simp), h2.mod hM (by simp)⟩

set_option maxRecDepth 100000 in
set_option maxHeartbeats 2000000 in
theorem apart_any (w : World) (B : Nat) (ts : List Th) (n : Nat) (hn : n ≤ 60) (h6 : ts.length = 6) (hlen : ∀ x ∈ ts, x.held.length ≤ 1000) (hH : Helds w B ts) (hnd : (ts.flatMap Th.held).Nodup) (hr : ∀ s ∈ ts.flatMap Th.held, 0 ≤ s ∧ s < n) :
    Calls Tryd.prog 8 #[.slice (some ⟨B, 0, none⟩) 6 6, .int .i64 n] w fun e w' => e = .returned (.bool true) ∧ Mod w w' [] := by
  have hmk := make_bools n hn
  go_enter Tryd.func8, Tryd.ntmps8
  go_wp2_with fail
  clear hmk
  obtain ⟨S, hS⟩ : ∃ S, S = w.heap.size := ⟨_, rfl⟩
  rw [← hS]
  have HS := Lib.hid hS
  clear hS
  go_loopw [6] (fun i wi => ∃ j : Nat, j ≤ 6 ∧ i = .int .i64 j ∧ Mod w wi [] ∧ ∃ arr, Has wi S (.cells arr 4) ∧ SeenArr arr n ((ts.take j).flatMap Th.held)) (fun i _ => 6 - (intOf i).toNat)
  case atStart => exact ⟨0, Nat.zero_le _, rfl, (Mod.refl _ _).alloc _, _, by rw [HS.out]; exact Has.new _ _, by simpa using SeenArr.new n⟩
  case round =>
    obtain ⟨j, hj, rfl, hM, arr, hA, hseen⟩ := hrel
    by_cases hlt : j < 6
    · obtain ⟨g, hv, hc, hl⟩ := hH j (by omega)
      have hj6 : j < ts.length := by omega
      have htk : (ts.take (j + 1)).flatMap Th.held = (ts.take j).flatMap Th.held ++ ts[j].held := by
        rw [List.take_succ_eq_append_getElem hj6, List.flatMap_append]
        simp
      have hsub : (ts.take j).flatMap Th.held ++ ts[j].held ++ (ts.drop (j + 1)).flatMap Th.held = ts.flatMap Th.held := by
        rw [← htk, ← List.flatMap_append, List.take_append_drop]
      rw [← hsub] at hnd hr
      have HT := Lib.hid htk
      have hRl := hlen ts[j] (List.getElem_mem _)
      clear htk hsub
      generalize (ts.take j).flatMap Th.held = H0 at *
      generalize (ts.drop (j + 1)).flatMap Th.held = H2 at *
      generalize ts[j].held = R at *
      have HND := Lib.hid (List.nodup_append.1 hnd).1
      have HR : Hid (∀ s ∈ R, 0 ≤ s ∧ s < n) := Lib.hid (fun s hs => hr s (by simp [hs]))
      clear hnd hr
      obtain ⟨pa, cap, rfl, hcap⟩ := hl.form
      have hlm := hl.mod hM (by simp)
      have hcm := cell_mod hc hM (by simp)
      go_wp2_with fail
      rw [show decide ((j : Int) < 6) = true by simp; omega]
      go_loopw [7] (fun i wi => ∃ k : Nat, k ≤ R.length ∧ i = .int .i64 k ∧ Mod w wi [] ∧ ∃ arr, Has wi S (.cells arr 4) ∧ SeenArr arr n (H0 ++ R.take k)) (fun i _ => R.length - (intOf i).toNat)
      case atStart => exact ⟨0, Nat.zero_le _, rfl, hM, arr, hA, by simpa using hseen⟩
      case round =>
        clear hA hseen hlm hcm hM
        obtain ⟨k, hk, rfl, hM, arr, hA, hseen⟩ := hrel
        have hcm := cell_mod hc hM (by simp)
        by_cases hkl : k < R.length
        · obtain ⟨gb, off, cap', _, he, hck, _⟩ := (hl.mod hM (by simp)).cell hkl
          cases he
          have hx := HR.out R[k] (List.getElem_mem _)
          have hnm : R[k] ∉ H0 ++ R.take k := by
            intro hm
            have h1 := List.nodup_append.1 HND.out
            rcases List.mem_append.1 hm with hm | hm
            · exact h1.2.2 _ hm _ (List.getElem_mem _) rfl
            · rw [List.mem_take_iff_getElem] at hm
              obtain ⟨i, hi, he⟩ := hm
              exact (List.pairwise_iff_getElem.1 h1.2.1) i k (by omega) hkl (by omega) he
          have htk : R.take (k + 1) = R.take k ++ [R[k]] := List.take_succ_eq_append_getElem hkl
          generalize R[k] = x at *
          obtain ⟨xn, rfl⟩ : ∃ xn : Nat, x = xn := ⟨x.toNat, by omega⟩
          have hx1 : xn < n := by omega
          have hx2 : (xn : Int) < n := by omega
          have hx3 : 0 ≤ (xn : Int) := by omega
          have HTK := Lib.hid htk
          have hca := hA.cell xn
          rw [hseen.at_ xn hx1, show (H0 ++ R.take k).contains (xn : Int) = false by simpa using hnm] at hca
          have hfz := hA.frozen
          have hset := hseen.set hx1
          have HSET := Lib.hid hset
          have hkn : (k : Int) < R.length := by omega
          clear htk hnm hx hset hseen
          go_wp2_with fail
          go_roundw
          case rel =>
            have hfin : ∃ k' : Nat, k' ≤ R.length ∧ Value.int .i64 ((k : Int) + 1) = .int .i64 k' ∧ Mod w (wr.setCell ⟨S, xn, none⟩ (.bool true)) [] ∧ ∃ arr, Has (wr.setCell ⟨S, xn, none⟩ (.bool true)) S (.cells arr 4) ∧ SeenArr arr n (H0 ++ R.take k') :=
              ⟨k + 1, by omega, by go_num, hM.setCell (.inr (by simp only [HS.out]; exact Nat.le_refl _)) _, _, hA.set_same _ _, by rw [HTK.out, ← List.append_assoc]; exact HSET.out⟩
            first | exact hfin | ((repeat apply Exists.intro); exact ⟨hfin, rfl⟩)
          case measure => simp [intOf]; omega
        · obtain rfl : k = R.length := by omega
          rw [List.take_length] at hseen
          go_wp2_with fail
          exact ⟨⟨j + 1, by omega, by go_num, hM, arr, hA, by rw [HT.out]; exact hseen⟩, by simp [intOf]; omega⟩
    · obtain rfl : j = 6 := by omega
      go_wp2_with fail
      go_ret
      exact ⟨rfl, hM⟩

end Go.Proofs.YtlecajmnmhpjkaaDoor.law07
