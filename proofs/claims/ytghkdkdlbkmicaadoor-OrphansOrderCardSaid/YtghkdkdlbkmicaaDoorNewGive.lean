/- A Give that begins: which entries may be given. -/
import Derived.Test.YtghkdkdlbkmicaaDoorGive
import Derived.LoopTactic
import Derived.OwnWalk
namespace Go.Proofs.YtghkdkdlbkmicaaDoor
open Go.RowKit

set_option maxRecDepth 100000 in
set_option maxHeartbeats 2000000 in
theorem index_any (w : World) (v : Value) (l : List Int) (h : IntRow w v l) (s : Int) (hl : l.length ≤ 1000) :
    Calls Tryd.prog 144 #[v, .int .i64 s] w fun e w' => ∃ k : Int, e = .returned (.int .i64 k) ∧ (0 ≤ k ↔ s ∈ l) ∧ w = w' := by
  obtain ⟨pa, c, rfl, hc⟩ := h.form
  have H := Lib.hid h
  clear h
  go_enter Tryd.func144, Tryd.ntmps144
  go_wp2_with fail
  go_loop [8] (fun v => ∃ k : Nat, k ≤ l.length ∧ v = .int .i64 k ∧ s ∉ l.take k) (fun v => l.length - (intOf v).toNat)
  case atStart => exact ⟨0, Nat.zero_le _, rfl, by simp⟩
  case round =>
    obtain ⟨k, hk, rfl, hns⟩ := hrel
    have HNS := Lib.hid hns
    clear hns
    by_cases hlt : k < l.length
    · obtain ⟨g, c2, hv, hc2, hcell⟩ := H.out.cell hlt
      simp only [Value.slice.injEq] at hv
      obtain ⟨rfl, _, rfl⟩ := hv
      have hkI : (k : Int) < l.length := by omega
      by_cases he : s = l[k]
      · have heq : (s == l[k]) = true := by simpa using he
        have HE := Lib.hid he
        clear he
        go_wp2_with fail
        go_ret
        exact ⟨k, rfl, ⟨fun _ => by rw [HE.out]; exact List.getElem_mem _, fun _ => by omega⟩, rfl⟩
      · have heq : (s == l[k]) = false := by simpa using he
        have HE := Lib.hid he
        clear he
        go_wp2_with fail
        refine ⟨?_, by simp [intOf]; omega⟩
        have hfin : ∃ k' : Nat, k' ≤ l.length ∧ Value.int .i64 ((k : Int) + 1) = .int .i64 k' ∧ s ∉ l.take k' :=
          ⟨k + 1, by omega, by go_num, by
            rw [List.take_succ_eq_append_getElem hlt]
            intro hm
            rcases List.mem_append.1 hm with h | h
            · exact HNS.out h
            · simp at h
              exact HE.out h⟩
        first | exact hfin | ((repeat apply Exists.intro); exact ⟨hfin, rfl⟩)
    · obtain rfl : k = l.length := by omega
      go_wp2_with fail
      go_ret
      refine ⟨-1, rfl, ⟨fun h => by omega, fun h => ?_⟩, rfl⟩
      have := HNS.out
      rw [List.take_length] at this
      exact absurd h this

theorem contains_any (w : World) (v : Value) (l : List Int) (h : IntRow w v l) (s : Int) (hl : l.length ≤ 1000) :
    Calls Tryd.prog 112 #[v, .int .i64 s] w fun e w' => e = .returned (.bool (decide (s ∈ l))) ∧ w = w' := by
  go_enter Tryd.func112, Tryd.ntmps112
  go_wp2_with fail
  refine (index_any w v l h s hl).mono ?_
  rintro e w1 ⟨k, rfl, hk, rfl⟩
  have HK := Lib.hid hk
  clear hk
  go_wp2_with fail
  go_ret
  exact ⟨congrArg (fun b => Ending.returned (Value.bool b)) (decide_eq_decide.2 HK.out), rfl⟩

/-- May entries be given: their slots. -/
def badE (e : Ent6) (acc : List Int) : Prop := e.slot < 0 ∨ 256 ≤ e.slot ∨ e.mark = true ∨ e.slot ∈ acc
instance (e : Ent6) (acc : List Int) : Decidable (badE e acc) := by unfold badE; infer_instance
def mayScan : List Ent6 → List Int → Option (List Int)
  | [], acc => some acc
  | e :: l, acc => if badE e acc then none else mayScan l (acc ++ [e.slot])

theorem ent_cells {w : World} {va : Value} {l : List Ent6} (h : EntSrc w va l) {i : Nat} (hi : i < l.length) :
    ∃ b off c, va = .slice (some ⟨b, off, none⟩) l.length c ∧ l.length ≤ c ∧ (∀ k u, (l[i]).cells[k]? = some u → w.cell? ⟨b, off + i * 6 + k, none⟩ = some u) := by
  rcases h with ⟨_, h0, _⟩ | ⟨b, off, c, rfl, h0, h1, h4, h2, h3⟩
  · omega
  · refine ⟨b, off, c, rfl, h0, fun k u hu => ?_⟩
    have hk : k < 6 := by
      rcases Nat.lt_or_ge k 6 with hk | hk
      · exact hk
      · rw [List.getElem?_eq_none (by simpa [Ent6.cells] using hk)] at hu
        cases hu
    rw [Nat.add_assoc]
    exact h2 (i * 6 + k) u (by rw [flat_at l i k hi hk]; exact hu)

/-- What 'may' leaves: the slots' row; none: it may not be given. -/
def MayPost (w : World) (l : List Ent6) (e : Ending) (w' : World) : Prop :=
  ∃ v ss, e = .returned (.tuple #[v, .bool (decide (0 < ss.length))]) ∧ IntRow w' v ss ∧ ss = (mayScan l []).getD [] ∧ Mod w w' [] ∧ (∀ y, v.ownBlock = some y → w.heap.size ≤ y)

set_option maxRecDepth 100000 in
set_option maxHeartbeats 4000000 in
theorem omay_any (w : World) (va : Value) (l : List Ent6) (h : EntSrc w va l) (hl : l.length ≤ 1000) :
    Calls Tryd.prog 69 #[va] w (MayPost w l) := by
  obtain ⟨i0, hi, hz0, hz1, hz2⟩ := info_parts (P := Tryd.prog) (e := 3) (z := .int .i64 0) (size := 1) (bytes := 8) (by kernel_rfl)
  obtain ⟨pa, c, rfl, hc⟩ := h.form
  have H := Lib.hid h
  clear h
  go_enter Tryd.func69, Tryd.ntmps69
  go_wp2_with fail
  go_loopw [4, 10] (fun s v wr => ∃ k : Nat, k ≤ l.length ∧ v = .int .i64 k ∧ ∃ acc, acc.length = k ∧ IntRow wr s acc ∧ mayScan l [] = mayScan (l.drop k) acc ∧ Mod w wr [] ∧ (∀ y, s.ownBlock = some y → w.heap.size ≤ y)) (fun _ v _ => l.length - (intOf v).toNat)
  case atStart => exact ⟨0, Nat.zero_le _, rfl, [], rfl, Row.nil _ _ _, rfl, Mod.refl _ _, fun y hy => by cases hy⟩
  case round =>
    obtain ⟨k, hk, rfl, acc, hal, hrow, hsc, hM, hlo⟩ := hrel
    have HSC := Lib.hid hsc
    have HAL := Lib.hid hal
    have HLO := Lib.hid hlo
    clear hsc hal hlo
    by_cases hlt : k < l.length
    · obtain ⟨b, off, c2, hv, hc2, hcell⟩ := ent_cells H.out hlt
      simp only [Value.slice.injEq] at hv
      obtain ⟨rfl, _, rfl⟩ := hv
      have hkI : (k : Int) < l.length := by omega
      have hcw : ∀ j u, (l[k]).cells[j]? = some u → wr.cell? ⟨b, off + k * 6 + j, none⟩ = some u := fun j u hu => cell_mod (hcell j u hu) hM (by simp)
      have q0 : wr.cell? ⟨b, off + k * 6, none⟩ = _ := hcw 0 _ rfl
      have q1 := hcw 1 _ rfl
      have q2 := hcw 2 _ rfl
      have q3 := hcw 3 _ rfl
      have q4 := hcw 4 _ rfl
      have q5 := hcw 5 _ rfl
      have hdrop : mayScan (l.drop k) acc = if badE l[k] acc then none else mayScan (l.drop (k + 1)) (acc ++ [l[k].slot]) := by
        rw [List.drop_eq_getElem_cons hlt]
        rfl
      have HD := Lib.hid hdrop
      clear hcell hcw hdrop
      generalize l[k] = en at *
      have hnone : badE en acc → (mayScan l []).getD [] = [] := fun hb => by
        rw [HSC.out, HD.out, if_pos hb]
        rfl
      have HN := Lib.hid hnone
      clear hnone
      have hMa : ∀ o, Mod w (wr.alloc o) [] := fun o => hM.alloc o
      by_cases h1 : en.slot < 0
      · have HB := Lib.hid (HN.out (.inl h1))
        go_wp2_with fail
        all_goals
          go_ret2
          exact ⟨_, [], rfl, Row.nil _ _ _, HB.out.symm, hMa _, fun y hy => by cases hy⟩
      · by_cases h2 : 256 ≤ en.slot
        · have HB := Lib.hid (HN.out (.inr (.inl h2)))
          go_wp2_with fail
          all_goals
            go_ret2
            exact ⟨_, [], rfl, Row.nil _ _ _, HB.out.symm, hMa _, fun y hy => by cases hy⟩
        · have h1' : 0 ≤ en.slot := by omega
          have h2' : en.slot < 256 := by omega
          cases hmk : en.mark
          · rw [hmk] at q2
            have HMK := Lib.hid hmk
            clear hmk
            go_wp2_with fail
            have hrow2 : IntRow (wr.alloc (.cells #[.int .i64 en.slot, .int .u32 en.gen, .bool false, .int .u64 en.birth, .int .u64 en.epoch, .int .u64 en.era] 50)) u4 acc := Row.mod hrow ((Mod.refl _ []).alloc _) (by simp)
            have hM2 := hMa (.cells #[.int .i64 en.slot, .int .u32 en.gen, .bool false, .int .u64 en.birth, .int .u64 en.epoch, .int .u64 en.era] 50)
            have hsz : w.heap.size ≤ wr.heap.size := hM.size
            clear q0 q1 q2 q3 q4 q5 hM hrow hMa
            refine (contains_any _ u4 acc hrow2 en.slot (by have := HAL.out; omega)).mono ?_
            rintro e w2 ⟨rfl, rfl⟩
            by_cases hin : en.slot ∈ acc
            · have HB := Lib.hid (HN.out (.inr (.inr (.inr hin))))
              rw [show decide (en.slot ∈ acc) = true by simpa using hin]
              clear hin
              go_wp2_with fail
              go_ret2
              exact ⟨_, [], rfl, Row.nil _ _ _, HB.out.symm, hM2, fun y hy => by cases hy⟩
            · rw [show decide (en.slot ∈ acc) = false by simpa using hin]
              have HOK := Lib.hid (show mayScan l [] = mayScan (l.drop (k + 1)) (acc ++ [en.slot]) by
                rw [HSC.out, HD.out, if_neg]
                rintro (h | h | h | h)
                · omega
                · omega
                · rw [HMK.out] at h
                  cases h
                · exact hin h)
              clear hin
              generalize wr.alloc (.cells #[.int .i64 en.slot, .int .u32 en.gen, .bool false, .int .u64 en.birth, .int .u64 en.epoch, .int .u64 en.era] 50) = W at hrow2 hM2 ⊢
              have hWs : w.heap.size ≤ W.heap.size := hM2.size
              obtain ⟨pv, cv, rfl, hcv⟩ := Row.form hrow2
              have hal1 : acc.length ≤ 1000 := by have := HAL.out; omega
              go_wp2_with (first | (at_builtin; go_must (refine wpList_append_row _ rfl _ _ 74 rfl 3 i0 (.int .i64 0) 1 8 Tryd.underlying74 hi hz0 hz1 hz2 rfl (by decide) (by decide) (.slice pv acc.length cv) acc.length (acc.map (Value.int .i64)) rfl (Row.mod hrow2 ((Mod.refl _ []).alloc _) (by simp)) (by omega) _ 1 [.int .i64 en.slot] rfl (Src.one (cs := #[.int .i64 en.slot]) (Has.new _ _) rfl (by intro u hu; simp at hu; subst hu; rfl)) (by omega) ?_); intro v' w4 hrow4 hM4 hob4))
              refine ⟨?_, by simp [intOf]; omega⟩
              have hfin : ∃ k' : Nat, k' ≤ l.length ∧ Value.int .i64 ((k : Int) + 1) = .int .i64 k' ∧ ∃ acc, acc.length = k' ∧ IntRow w4 v' acc ∧ mayScan l [] = mayScan (l.drop k') acc ∧ Mod w w4 [] ∧ (∀ y, v'.ownBlock = some y → w.heap.size ≤ y) := by
                refine ⟨k + 1, by omega, by go_num, acc ++ [en.slot], by simp [HAL.out], ?_, HOK.out, (hM2.alloc _).call hM4 (fun y hy => .inr (HLO.out y (by simpa using hy))), fun y hy => ?_⟩
                · unfold IntRow
                  simpa using hrow4
                · rcases hob4 y hy with e | e
                  · exact HLO.out y e
                  · simp at e
                    omega
              first | exact hfin | ((repeat apply Exists.intro); exact ⟨hfin, rfl⟩)
          · rw [hmk] at q2
            have HB := Lib.hid (HN.out (.inr (.inr (.inl hmk))))
            clear hmk
            go_wp2_with fail
            go_ret2
            exact ⟨_, [], rfl, Row.nil _ _ _, HB.out.symm, hMa _, fun y hy => by cases hy⟩
    · obtain rfl : k = l.length := by omega
      have hfin : (mayScan l []).getD [] = acc := by
        rw [HSC.out, List.drop_length]
        rfl
      have HF := Lib.hid hfin
      clear hfin
      obtain ⟨pv, cv, rfl, hcv⟩ := Row.form hrow
      have HLO2 := HLO.out
      have HLO3 := Lib.hid HLO2
      clear HLO HLO2
      by_cases h0 : 0 < acc.length
      · have h0' : (0 : Int) < acc.length := by omega
        go_wp2_with fail
        go_ret2
        exact ⟨_, acc, by simp [h0], hrow, HF.out.symm, hM, HLO3.out⟩
      · have h0' : (acc.length : Int) ≤ 0 := by omega
        go_wp2_with fail
        go_ret2
        exact ⟨_, acc, by simp [h0], hrow, HF.out.symm, hM, HLO3.out⟩

def GiveS.new (ss : List Int) : GiveS := ⟨if ss.length = 0 then 0 else if ss.length = 1 then 2 else 1, 0, ss, 0⟩
def NewGivePost (w : World) (l : List Ent6) (e : Ending) (w' : World) : Prop :=
  ∃ b v, e = .returned (.pointer (some ⟨b, 0, none⟩)) ∧ w.heap.size ≤ b ∧ GiveAt w' b v (GiveS.new ((mayScan l []).getD [])) ∧ Mod w w' [] ∧ (∀ y, v.ownBlock = some y → w.heap.size ≤ y)

set_option maxRecDepth 100000 in
set_option maxHeartbeats 4000000 in
theorem newGive_any (w : World) (va : Value) (l : List Ent6) (h : EntSrc w va l) (hl : l.length ≤ 1000) :
    Calls Tryd.prog 31 #[va] w (NewGivePost w l) := by
  go_enter Tryd.func31, Tryd.ntmps31
  go_wp2_with fail
  refine (omay_any w va l h hl).mono ?_
  rintro e w1 ⟨v, ss, rfl, hrow, hss, hM, hlo⟩
  have HSS := Lib.hid hss
  have HLO := Lib.hid hlo
  have hsz := hM.size
  clear hss hlo
  have hne : v.ownBlock ≠ some w1.heap.size := fun e => by
    have := hrow.lt e
    omega
  have hfin : ∀ (line : Int) (W : World), (W = w1.alloc (.cells #[.int .i64 line, .int .u64 0, v, .int .i64 0] 76)) → line = (GiveS.new ss).line → NewGivePost w l (.returned (.pointer (some ⟨w1.heap.size, 0, none⟩))) W := by
    rintro line W rfl hline
    refine ⟨w1.heap.size, v, rfl, hsz, ⟨?_, ?_, hne⟩, hM.alloc _, HLO.out⟩
    · rw [← HSS.out]
      unfold GiveS.obj
      rw [← hline]
      exact Has.new _ _
    · rw [← HSS.out]
      exact Row.mod hrow ((Mod.refl _ []).alloc _) (by simp)
  have HF := Lib.hid hfin
  clear hfin hne
  rcases Nat.lt_or_ge 0 ss.length with h0 | h0
  · have hd : decide (0 < ss.length) = true := by simpa using h0
    rw [hd]
    obtain ⟨pv, cv, rfl, hcv⟩ := Row.form hrow
    by_cases h1 : ss.length = 1
    · have h1b : ((ss.length : Int) == 1) = true := by simp; omega
      have hline : (GiveS.new ss).line = 2 := by simp [GiveS.new, h1]
      have HL := Lib.hid hline
      clear hd h1 hline
      go_wp2_with fail
      go_ret
      exact HF.out 2 _ rfl HL.out.symm
    · have h1b : ((ss.length : Int) == 1) = false := by simp; omega
      have hline : (GiveS.new ss).line = 1 := by
        simp only [GiveS.new]
        rw [if_neg (by omega), if_neg h1]
      have HL := Lib.hid hline
      clear hd h1 hline
      go_wp2_with fail
      go_ret
      exact HF.out 1 _ rfl HL.out.symm
  · have hd : decide (0 < ss.length) = false := by simpa using h0
    rw [hd]
    have hsl : ss = [] := List.length_eq_zero_iff.1 (by omega)
    have HSL := Lib.hid hsl
    clear hd hsl
    go_wp2_with fail
    go_ret
    refine ⟨w1.heap.size, .slice none 0 0, rfl, hsz, ⟨?_, ?_, by simp [Value.ownBlock]⟩, hM.alloc _, fun y hy => by cases hy⟩
    · rw [← HSS.out, HSL.out]
      exact Has.new _ _
    · rw [← HSS.out, HSL.out]
      exact Row.nil _ _ _

end Go.Proofs.YtghkdkdlbkmicaaDoor
