/- A snapshot taken by one alone: its steps, and what it got. -/
import Derived.Test.YtlecajmnmhpjkaaSnaps
import Derived.ArgAppend
import Derived.Deep.AppendLies
import Derived.Laws.MakeOwn
namespace Go.Proofs.Ytlecajmnmhpjkaa
open Go.RowKit

set_option maxRecDepth 100000 in
set_option maxHeartbeats 2000000 in
theorem takerStep_first (w : World) (b m mb : Nat) (σ : MS) (hb : σ.g 5 0 0 = 1) (h : Has w b (takerO (fnBlocks b) (.slice none 0 0) 0 0 0)) (hm : MemAt w m mb σ) (n1 : b ≠ m) (n2 : b ≠ mb) :
    Calls Try.prog 33 #[.pointer (some ⟨b, 0, none⟩), .pointer (some ⟨m, 0, none⟩)] w fun e w' =>
      e = .returned (.bool false) ∧ ∃ T, w.heap.size ≤ T ∧ Mod w w' [m, b] ∧ MemAt w' m mb (σ.load 5 0 0) ∧ TakeAt w' b T σ.g 0 0 := by
  have h0 := h
  unfold takerO fnBlocks at h
  have c_h_0 := h.cell 0; simp only [getRules] at c_h_0
  go_enter Try.func33, Try.ntmps33
  go_wp2_with fail
  refine (takerOver_no w b _ _ _ _ _ _ _ h0).mono ?_
  rintro e w1 ⟨rfl, rfl⟩
  go_wp2_with fail
  refine (takerBlocks w b m mb σ hb h0 hm n1 n2).mono ?_
  rintro e w2 ⟨rfl, T, h1, h2, h3, h4⟩
  have h5 := h4.obj
  rw [if_neg (by omega)] at h5
  go_wp2_with fail
  refine (takerOver_no w2 b _ _ _ _ _ _ _ h5).mono ?_
  rintro e w3 ⟨rfl, rfl⟩
  go_wp2_with fail
  go_ret
  exact ⟨rfl, T, h1, h2, h3, h4⟩

set_option maxRecDepth 100000 in
set_option maxHeartbeats 2000000 in
theorem takerStep_word (w : World) (b m mb T : Nat) (σ : MS) (a f a' f' : Nat) (ha : a < 4) (hn : ((σ.g 8 a 0 = 0 ∨ f = 9) ∧ a' = a + 1 ∧ f' = 0) ∨ (σ.g 8 a 0 ≠ 0 ∧ f ≠ 9 ∧ a' = a ∧ f' = f + 1)) (h : TakeAt w b T σ.g a f) (hm : MemAt w m mb σ) (n1 : b ≠ m) (n2 : b ≠ mb) (n3 : T ≠ m) (n4 : T ≠ mb) :
    Calls Try.prog 33 #[.pointer (some ⟨b, 0, none⟩), .pointer (some ⟨m, 0, none⟩)] w fun e w' =>
      ∃ v, e = .returned (.bool v) ∧ Mod w w' [m, b, T] ∧ MemAt w' m mb (σ.load 8 a f) ∧ TakeAt w' b T σ.g a' f' := by
  have h0 := h.obj
  have hw := takerWord w b m mb T σ a f a' f' ha hn h hm n1 n2 n3 n4
  have HW := Lib.hid hw
  clear hw hn
  rw [if_neg (by omega)] at h0
  have h1 := h0
  unfold takerO fnWord at h1
  have c_h1_0 := h1.cell 0; simp only [getRules] at c_h1_0
  go_enter Try.func33, Try.ntmps33
  go_wp2_with fail
  refine (takerOver_no w b _ _ _ _ _ _ _ h0).mono ?_
  rintro e w1 ⟨rfl, rfl⟩
  go_wp2_with fail
  refine HW.out.mono ?_
  rintro e w2 ⟨rfl, h2, h3, h4⟩
  have h5 := h4.obj
  by_cases h44 : a' = 4
  · rw [if_pos h44] at h5
    go_wp2_with fail
    refine (takerOver_yes w2 b _ _ _ _ h5).mono ?_
    rintro e w3 ⟨rfl, rfl⟩
    go_wp2_with fail
    go_ret
    exact ⟨_, rfl, h2, h3, h4⟩
  · rw [if_neg h44] at h5
    go_wp2_with fail
    refine (takerOver_no w2 b _ _ _ _ _ _ _ h5).mono ?_
    rintro e w3 ⟨rfl, rfl⟩
    go_wp2_with fail
    go_ret
    exact ⟨_, rfl, h2, h3, h4⟩

/-- A snapshot's threads lie in block g. -/
def SnapAt (w : World) (s : Nat) (g : Int → Int → Int → Int) : Prop := ∃ arr ty, Has w s (.cells arr ty) ∧ ∀ i, i < 40 → arr[i]? = some (.int .u64 (thrW g (i / 10 : Nat) (i % 10)))

@[go_sem] theorem eql_threads (a : Addr) (n c : Nat) (w : World) : (binOp .eql 42 (.slice (some a) n c) (.slice none 0 0)).run Try.prog w = .ok (.bool false) w := by kernel_rfl

theorem info_thread : ∃ i z, Try.prog.info? 78 = some i ∧ i.zero = some z ∧ i.size = 10 ∧ i.bytes = 80 ∧ z.cells.size = 10 := by
  have h : (Try.prog.info? 78).map (fun i => (i.size, i.bytes, i.zero.map (fun z => z.cells.size))) = some (10, 80, some 10) := by kernel_rfl
  cases hi : Try.prog.info? 78 with
  | none => simp [hi] at h
  | some i =>
    rw [hi] at h
    simp only [Option.map_some, Option.some.injEq, Prod.mk.injEq] at h
    cases hz : i.zero with
    | none => simp [hz] at h
    | some z => exact ⟨i, z, rfl, hz, h.1, h.2.1, by simpa [hz] using h.2.2⟩

set_option maxRecDepth 100000 in
theorem clone_any (w : World) (T : Nat) (arr : Array Value) (ty : TypeId) (h : Has w T (.cells arr ty)) (hs : arr.size = 40) (h1 : ∀ v ∈ arr.toList, v.oneCell' = true) :
    Calls Try.prog 45 #[.slice (some ⟨T, 0, none⟩) 4 4] w fun e w' =>
      ∃ s c arr' ty', e = .returned (.slice (some ⟨s, 0, none⟩) 4 c) ∧ 4 ≤ c ∧ w.heap.size ≤ s ∧ Mod w w' [] ∧ Has w' s (.cells arr' ty') ∧ ∀ i, i < 40 → arr'[i]? = arr[i]? := by
  obtain ⟨i0, z0, hi, hz0, hz1, hz2, hz3⟩ := info_thread
  go_enter Try.func45, Try.ntmps45
  go_wp2_with (first | (at_builtin; go_must (refine wpList_append_grows _ rfl _ _ 42 rfl 78 i0 z0 10 80 Try.underlying42 hi hz0 hz1 hz2 hz3 (by decide) (some ⟨w.heap.size, 0, none⟩) 0 0 [] rfl (fun h => by cases h) rfl (fun b hb j u hu => by simp at hu) ⟨T, 0, none⟩ 4 4 arr.toList rfl (by simp [hs]) (World.news_of_block (h.alloc (.cells #[] 78))) h1 (by omega) (by decide) (by omega) ?_); intro v' w1 hown hgrow))
  go_ret
  rcases hown.2 with ⟨_, h0⟩ | ⟨g, c, cur, rfl, hb, hh, h3, h4, h5, h6⟩
  · omega
  · have hM : Mod w w1 [] := (((Mod.refl w []).alloc _).call (Mod.of_grown hgrow) (by simp))
    refine ⟨g, c, cur, _, rfl, by omega, by simp at hb; omega, hM, hh, fun i hi40 => ?_⟩
    have h7 : (cur.toList.take ((0 + 4) * 10))[i]? = arr.toList[i]? := by
      rw [h6]
      simp
    rw [List.getElem?_take_of_lt (by omega)] at h7
    simpa using h7

set_option maxRecDepth 100000 in
theorem clip_any (w : World) (p : Option Addr) (c : Nat) (hc : 4 ≤ c) :
    Calls Try.prog 44 #[.slice p 4 c] w fun e w' => e = .returned (.slice p 4 4) ∧ w = w' := by
  have hc' : (4 : Int) ≤ c := by omega
  go_enter Try.func44, Try.ntmps44
  go_wp2_with fail
  go_ret
  exact ⟨rfl, rfl⟩

set_option maxRecDepth 100000 in
set_option maxHeartbeats 2000000 in
theorem takerGot (w : World) (b T f : Nat) (g : Int → Int → Int → Int) (h : TakeAt w b T g 4 f) :
    Calls Try.prog 34 #[.pointer (some ⟨b, 0, none⟩)] w fun e w' =>
      ∃ s, e = .returned (.agg #[.slice (some ⟨s, 0, none⟩) 4 4, .int .u64 0]) ∧ SnapAt w' s g ∧ w.heap.size ≤ s ∧ Mod w w' [] := by
  obtain ⟨hB, ⟨arr, hT, harr⟩, ne, _, _⟩ := h
  rw [if_pos rfl] at hB
  unfold takerO at hB
  have hl := hB.lt
  have hlT := hT.lt
  have hsz := harr.size
  have h1 : ∀ v ∈ arr.toList, v.oneCell' = true := by
    intro v hv
    obtain ⟨i, hi, rfl⟩ := List.getElem_of_mem hv
    have hi' : i < 40 := by
      simp at hi
      omega
    have := harr.at_ i hi'
    simp at hi
    rw [Array.getElem?_eq_getElem (by omega)] at this
    simp at this
    simp [this, Value.oneCell']
  have HA := Lib.hid harr
  clear harr
  have c_hB_0 := hB.cell 0; have c_hB_1 := hB.cell 1; have c_hB_2 := hB.cell 2; simp only [getRules] at c_hB_0 c_hB_1 c_hB_2
  go_enter Try.func34, Try.ntmps34
  go_wp2_with (first | (go_at_call 45; go_must (refine (clone_any _ T arr _ (((hT.alloc _).alloc _)) hsz h1).mono ?_; rintro e w1 ⟨s, c, arr', ty', rfl, hc, hs, hM, hS, hcp⟩; have hR1 := ((Has.new w (.cells #[.slice none 0 0, .int .u64 0] 44)).alloc (.cells #[.slice (some ⟨T, 0, none⟩) 4 4, .int .u64 0] 44)).mod hM (by simp); have hR2 := (Has.new_at (w.alloc (.cells #[.slice none 0 0, .int .u64 0] 44)) (.cells #[.slice (some ⟨T, 0, none⟩) 4 4, .int .u64 0] 44) (w.heap.size + 1) (by simp)).mod hM (by simp); have lt1 := hR1.lt; have lt2 := hR2.lt; have fz1 := hR1.frozen; have fz2 := hR2.frozen; have c_hR1_0 := hR1.cell 0; have c_hR1_1 := hR1.cell 1; simp only [getRules] at c_hR1_0 c_hR1_1; have c_hR2_0 := hR2.cell 0; have c_hR2_1 := hR2.cell 1; simp only [getRules] at c_hR2_0 c_hR2_1)) | (go_at_call 44; go_must (refine (clip_any _ _ c hc).mono ?_; rintro e w2 ⟨rfl, rfl⟩)))
  simp at hs
  have hMw : Mod w w1 [] := (((Mod.refl w []).alloc _).alloc _).call hM (by simp)
  refine bodyPost_ret (v := .agg #[.slice (some ⟨s, 0, none⟩) 4 4, .int .u64 0]) ?_ rfl ⟨s, rfl, ⟨arr', ty', ((hS.set_other (by simp; omega) _).set_other (by simp; omega) _).set_other (by simp; omega) _, fun i hi => ?_⟩, by omega, ((hMw.setCell (.inr (by simp)) _).setCell (.inr (by simp)) _).setCell (.inr (by simp)) _⟩
  · simp [results, Try.results34, go_sem, c_hR1_0, c_hR1_1]
  · rw [hcp i hi, HA.out.at_ i hi]
    unfold valW
    rw [if_pos (by omega)]

/-- While one alone takes a snapshot: i steps. -/
def Taking (w0 w : World) (m mb b : Nat) (g : Int → Int → Int → Int) (i : Nat) (wr : World) : Prop :=
  ∃ σ, MSys w0 wr m mb σ ∧ σ.g = g ∧ Mod w wr [m] ∧ w.heap.size ≤ b ∧ b ≠ m ∧ b ≠ mb ∧
    ((i = 0 ∧ Has wr b (takerO (fnBlocks b) (.slice none 0 0) 0 0 0)) ∨ (∃ T a f, w.heap.size ≤ T ∧ T ≠ m ∧ T ≠ mb ∧ TakeAt wr b T g a f ∧ 1 ≤ i ∧ i ≤ 10 * a + f + 1))

set_option maxRecDepth 100000 in
set_option maxHeartbeats 2000000 in
theorem snap_any (w0 w : World) (m mb : Nat) (σ : MS) (h : MSys w0 w m mb σ) (hb : σ.g 5 0 0 = 1) :
    Calls Try.prog 12 #[.pointer (some ⟨m, 0, none⟩)] w fun e w' =>
      ∃ s σ', e = .returned (.agg #[.slice (some ⟨s, 0, none⟩) 4 4, .int .u64 0]) ∧ SnapAt w' s σ.g ∧ w.heap.size ≤ s ∧ MSys w0 w' m mb σ' ∧ σ'.g = σ.g ∧ Mod w w' [m] := by
  have hl := h.mem.lt
  have hlb := h.mem.ltb
  go_enter Try.func12, Try.ntmps12
  go_wp2_with fail
  refine (newTaker_any _).mono ?_
  rintro e w1 ⟨rfl, hM1, hO⟩
  generalize hwa : w.alloc (.cells #[.slice none 0 0, .int .u64 0] 44) = wa at hM1 hO ⊢
  have hRa : Has wa w.heap.size (.cells #[.slice none 0 0, .int .u64 0] 44) := by rw [← hwa]; exact Has.new _ _
  have hMa : Mod w wa [] := by rw [← hwa]; exact (Mod.refl _ _).alloc _
  have hsa : wa.heap.size = w.heap.size + 1 := by rw [← hwa]; simp
  clear hwa
  obtain ⟨b, hbb⟩ : ∃ b, b = wa.heap.size := ⟨_, rfl⟩
  rw [← hbb] at hO ⊢
  have hT0 : Taking w0 wa m mb b σ.g 0 w1 := ⟨σ, (h.keep0 hMa).keep0 hM1, rfl, hM1.wider (by simp), by omega, by omega, by omega, .inl ⟨rfl, hO⟩⟩
  have HBB := Lib.hid hbb
  have HSA := Lib.hid hsa
  have HMA := Lib.hid hMa
  clear hM1 hO hbb hsa hMa
  generalize hg : σ.g = g at *
  go_wp2_with fail
  go_loopw [4] (fun v wr => ∃ i : Nat, i ≤ 100 ∧ v = .int .i64 i ∧ Taking w0 wa m mb b g i wr) (fun v _ => 200 - (intOf v).toNat)
  case atStart => exact ⟨0, by omega, rfl, hT0⟩
  case round =>
    clear hT0
    obtain ⟨i, hi, rfl, σ', hs, hg', hM, hblo, hbm, hbmb, hh⟩ := hrel
    have hi' : (i : Int) < 200 := by omega
    rcases hh with ⟨rfl, hO⟩ | ⟨T, a, f, hTlo, hTm, hTmb, hT, hi1, hi2⟩
    · go_wp2_with fail
      refine (takerOver_no wr b _ _ _ _ _ _ _ hO).mono ?_
      rintro e w2 ⟨rfl, rfl⟩
      go_wp2_with fail
      refine (takerStep_first wr b m mb σ' (by rw [hg']; exact hb) hO hs.mem hbm hbmb).mono ?_
      rintro e w2 ⟨rfl, T, hTlo, hM2, hm2, hT2⟩
      have hlt := hs.mem.lt
      have hltb := hs.mem.ltb
      have hsz := hM.size
      have hfin : Taking w0 wa m mb b g 1 w2 := ⟨_, hs.next hM2 (by intro c hc; simp at hc; have := h.lo; have := HMA.out.size; have := h.mod.size; omega) hm2, hg', hM.call hM2 (by intro c hc; simp at hc; rcases hc with rfl | rfl; exact .inl (by simp); exact .inr hblo), hblo, hbm, hbmb, .inr ⟨T, 0, 0, by omega, by omega, by omega, by rw [← hg']; exact hT2, by omega, by omega⟩⟩
      clear hO hM2 hm2 hT2
      go_wp2_with fail
      exact ⟨⟨1, by omega, rfl, hfin⟩, by simp [intOf]⟩
    · by_cases ha : a < 4
      · have h5 := hT.obj
        rw [if_neg (by omega)] at h5
        go_wp2_with fail
        refine (takerOver_no wr b _ _ _ _ _ _ _ h5).mono ?_
        rintro e w2 ⟨rfl, rfl⟩
        go_wp2_with fail
        obtain ⟨a', f', hn, hn2⟩ : ∃ a' f', (((g 8 a 0 = 0 ∨ f = 9) ∧ a' = a + 1 ∧ f' = 0) ∨ (g 8 a 0 ≠ 0 ∧ f ≠ 9 ∧ a' = a ∧ f' = f + 1)) ∧ 10 * a + f + 1 ≤ 10 * a' + f' := by
          have hf := hT.hf
          by_cases h0 : g 8 a 0 = 0 ∨ f = 9
          · exact ⟨a + 1, 0, .inl ⟨h0, rfl, rfl⟩, by omega⟩
          · exact ⟨a, f + 1, .inr ⟨fun e => h0 (.inl e), fun e => h0 (.inr e), rfl, rfl⟩, by omega⟩
        refine (takerStep_word wr b m mb T σ' a f a' f' ha (by rw [hg']; exact hn) (by rw [hg']; exact hT) hs.mem hbm hbmb hTm hTmb).mono ?_
        rintro e w2 ⟨v, rfl, hM2, hm2, hT2⟩
        have hsz := hM.size
        have hfin : Taking w0 wa m mb b g (i + 1) w2 := ⟨_, hs.next hM2 (by intro c hc; simp at hc; have := h.lo; have := HMA.out.size; have := h.mod.size; omega) hm2, hg', hM.call hM2 (by intro c hc; simp at hc; rcases hc with rfl | rfl | rfl; exact .inl (by simp); exact .inr hblo; exact .inr hTlo), hblo, hbm, hbmb, .inr ⟨T, a', f', hTlo, hTm, hTmb, by rw [← hg']; exact hT2, by omega, by omega⟩⟩
        have hi41 : i + 1 ≤ 100 := by
          have := hT2.ha
          have := hT2.hf
          omega
        clear hn hT hM2 hm2 hT2 h5
        go_wp2_with fail
        exact ⟨⟨i + 1, hi41, by go_num, hfin⟩, by simp [intOf]; omega⟩
      · obtain rfl : a = 4 := by have := hT.ha; omega
        have h5 := hT.obj
        rw [if_pos rfl] at h5
        go_wp2_with fail
        refine (takerOver_yes wr b _ _ _ _ h5).mono ?_
        rintro e w2 ⟨rfl, rfl⟩
        go_wp2_with fail
        refine (takerGot wr b T f g hT).mono ?_
        rintro e w2 ⟨s, rfl, hS, hslo, hM2⟩
        have hR := (hRa.mod hM (by simp; omega)).mod hM2 (by simp)
        have fz := hR.frozen
        have hlt := hR.lt
        have hs2 := hs.keep0 hM2
        have hsw := hM.size
        have c_hR_0 := hR.cell 0; have c_hR_1 := hR.cell 1; simp only [getRules] at c_hR_0 c_hR_1
        go_wp2_with fail
        have hsa := HSA.out
        have hwsz := h.mod.size
        have hslo2 : w.heap.size < s := by omega
        have hMf : Mod w2 ((w2.setCell ⟨w.heap.size, 0, none⟩ (.slice (some ⟨s, 0, none⟩) 4 4)).setCell ⟨w.heap.size, 1, none⟩ (.int .u64 0)) [w.heap.size] := ((Mod.refl _ _).setCell (.inl (by simp)) _).setCell (.inl (by simp)) _
        obtain ⟨arr, ty, hA, hAt⟩ := hS
        refine bodyPost_ret (v := .agg #[.slice (some ⟨s, 0, none⟩) 4 4, .int .u64 0]) ?_ rfl ⟨s, σ', rfl, ⟨arr, ty, hA.mod hMf (by simp; omega), by rw [hg]; exact hAt⟩, by omega, hs2.keep hMf (by simp; omega) (by simp; omega) (by simp; omega), by rw [hg', hg], ?_⟩
        · simp [results, Try.results12, go_sem, c_hR_0, c_hR_1]
        · exact (((HMA.out.wider (by simp)).call hM (fun c hc => .inl hc)).call hM2 (by simp)).call hMf (by simp)

end Go.Proofs.Ytlecajmnmhpjkaa
