/- FreesStack: the walk. -/
import Derived.Test.YtbncdbgeckcobaaDoorFreeLives
import Derived.Test.YtbncdbgeckcobaaDoorStack
import Derived.LoopTactic
import Derived.Deep.Cut
namespace Go.Proofs.YtbncdbgeckcobaaDoor.law07
open Go.RowKit

def addNew (S : List Int) (x : Int) : List Int := if S.contains x then S else S ++ [x]
def dedup (l : List Int) : List Int := l.foldl addNew []

theorem dedup_snoc (l : List Int) (k : Nat) (h : k < l.length) : dedup (l.take (k + 1)) = addNew (dedup (l.take k)) l[k] := by
  unfold dedup
  rw [List.take_succ_eq_append_getElem h, List.foldl_append]
  rfl
theorem dedup_len (l : List Int) : (dedup l).length ≤ l.length := by
  have : ∀ (l S : List Int), (l.foldl addNew S).length ≤ S.length + l.length := by
    intro l
    induction l with
    | nil => intro S; simp
    | cons x l ih =>
      intro S
      have := ih (addNew S x)
      have : (addNew S x).length ≤ S.length + 1 := by unfold addNew; split <;> simp
      simp only [List.foldl_cons, List.length_cons]
      omega
  simpa [dedup] using this l []

theorem dedup_mem (l : List Int) : ∀ x ∈ dedup l, x ∈ l := by
  have : ∀ (l S : List Int), ∀ x ∈ l.foldl addNew S, x ∈ S ∨ x ∈ l := by
    intro l
    induction l with
    | nil => intro S x h; exact .inl h
    | cons y l ih =>
      intro S x h
      rcases ih _ x h with h | h
      · unfold addNew at h
        split at h
        · exact .inl h
        · rcases List.mem_append.1 h with h | h
          · exact .inl h
          · simp at h
            exact .inr (by simp [h])
      · exact .inr (by simp [h])
  intro x h
  simpa using this l [] x h
theorem dedup_nodup (l : List Int) : (dedup l).Nodup := by
  have : ∀ (l S : List Int), S.Nodup → (l.foldl addNew S).Nodup := by
    intro l
    induction l with
    | nil => intro S h; exact h
    | cons y l ih =>
      intro S h
      refine ih _ ?_
      unfold addNew
      split
      · exact h
      · rename_i hn
        rw [List.nodup_append]
        refine ⟨h, by simp, ?_⟩
        intro a ha b hb
        simp at hb
        subst hb
        rintro rfl
        exact hn (by simpa using ha)
  exact this l [] (by simp)

/-- k slots are pushed. -/
def R3 (w : World) (m mb : Nat) (S : List Int) (v : Value) (k : Nat) (wi : World) : Prop :=
  ∃ σ, Sys w wi m mb σ ∧ Stk σ (S.take k).reverse k ∧ wi.ownsRow w.heap.size 3 1 v S.length (S.map (Value.int .i64))

/-- What is left to pop: the slots of T, the last one first; the slice v reads T. -/
def RF (w : World) (m mb : Nat) (v : Value) (wi : World) : Prop :=
  ∃ (T : List Int) (pv : Option Addr) (cv : Nat) (σ : MS) (t : Int), v = .slice pv T.length cv ∧ Sys w wi m mb σ ∧ Stk σ T.reverse t ∧ t ≤ 1000 ∧ T.length ≤ 60 ∧ SliceAt wi pv T m mb

def R9 (w : World) (m mb : Nat) (T : List Int) (pv : Option Addr) (t : Int) (k : Nat) (wi : World) : Prop :=
  ∃ σ, Sys w wi m mb σ ∧ Stk σ (T.take k).reverse (t + (T.length - k)) ∧ SliceAt wi pv T m mb

theorem info3 : (Tryd.prog.info? 3).map (fun i => (i.zero, i.size, i.bytes)) = some (some (.int .i64 0), 1, 8) := by kernel_rfl

theorem take_contains (S : List Int) (j : Nat) (h : j < S.length) (x : Int) : (S.take (j + 1)).contains x = ((S.take j).contains x || S[j] == x) := by
  rw [List.take_succ_eq_append_getElem h, Bool.eq_iff_iff]
  simp only [List.contains_iff_mem, List.mem_append, List.mem_singleton, Bool.or_eq_true, beq_iff_eq]
  constructor
  · rintro (h | h)
    · exact .inl h
    · exact .inr h.symm
  · rintro (h | h)
    · exact .inl h
    · exact .inr h.symm

set_option maxRecDepth 100000 in
set_option maxHeartbeats 2000000 in
theorem stack_walk (w : World) (hf : FieldsAt w) (pa : Option Addr) (cap : Nat) (l : List Int) (hr : ∀ x ∈ l, 0 ≤ x ∧ x < 256) (h60 : l.length ≤ 60)
    (hc : ∀ i (hi : i < l.length), ∃ b off, pa = some ⟨b, off, none⟩ ∧ w.cell? ⟨b, off + i, none⟩ = some (.int .u8 l[i])) :
    Calls Tryd.prog 4 #[.slice pa l.length cap] w fun e w' => e = .returned (.bool true) ∧ Mod w w' [] := by
  obtain ⟨i0, hi, hz0, hz1, hz2⟩ := info_parts info3
  have HC := Lib.hid hc
  have HR := Lib.hid hr
  clear hc hr
  go_enter Tryd.func4, Tryd.ntmps4
  go_wp2
  go_loopw [3, 4] (fun v i wr => ∃ k : Nat, k ≤ l.length ∧ i = .int .i64 k ∧ wr.ownsRow w.heap.size 3 1 v (dedup (l.take k)).length ((dedup (l.take k)).map (Value.int .i64)) ∧ Below w.heap.size w wr) (fun _ i _ => l.length - (intOf i).toNat)
  case atStart => exact ⟨0, Nat.zero_le _, rfl, World.ownsRow_nil _ _ _ _, Below.refl _ _⟩
  case round =>
    obtain ⟨k, hk, rfl, hown, hbel⟩ := hrel
    by_cases hlt : k < l.length
    · obtain ⟨ab, ao, rfl, hcx⟩ := HC.out k hlt
      obtain ⟨x, hx⟩ : ∃ x, x = l[k] := ⟨_, rfl⟩
      rw [← hx] at hcx
      have hx01 := HR.out x (by rw [hx]; exact List.getElem_mem _)
      have hx0 := hx01.1
      have hx1 := hx01.2
      have HX := Lib.hid hx
      clear hx hx01
      obtain ⟨S, hS⟩ : ∃ S, S = dedup (l.take k) := ⟨_, rfl⟩
      rw [← hS] at hown
      have HS := Lib.hid hS
      clear hS
      have hab : ab < w.heap.size := World.block_lt_of_cell? _ _ hcx
      have hcw : wr.cell? ⟨ab, ao + k, none⟩ = some (.int .u8 x) := by
        rw [hbel.cell (p := ⟨ab, ao + k, none⟩) hab]
        exact hcx
      have hSl : S.length ≤ 60 := by
        have h1 := dedup_len (l.take k)
        have h2 := HS.out
        rw [← h2] at h1
        simp at h1
        omega
      obtain ⟨pv, cv, rfl⟩ := ownsRow_form hown
      go_wp2
      go_loopw [5, 6] (fun had kk wi => ∃ j : Nat, j ≤ S.length ∧ kk = .int .i64 j ∧ had = .bool ((S.take j).contains x) ∧ ∃ n, wi = wr.drewN n) (fun _ kk _ => S.length - (intOf kk).toNat)
      case atStart => exact ⟨0, Nat.zero_le _, rfl, by simp, 0, rfl⟩
      case round =>
        obtain ⟨j, hj, rfl, rfl, nd, rfl⟩ := hrel
        by_cases hjl : j < S.length
        · obtain ⟨g, y, rfl, hg, hy, hcy⟩ := ownsRow_cell hown hjl
          rw [List.getElem?_map, List.getElem?_eq_getElem hjl] at hy
          cases hy
          have HJ : Hid ((S.take (j + 1)).contains x = ((S.take j).contains x || S[j] == x)) := Lib.hid (by
            exact take_contains S j hjl x)
          go_wp2
          cases hcon : (S.take j).contains x
          · have Hcon := Lib.hid hcon
            clear hcon
            go_quiet (fail)
            go_wp2
            go_roundw
            case rel => exact ⟨j + 1, by omega, by go_num, by rw [HJ.out, Hcon.out]; simp, _, rfl⟩
            case measure => simp [intOf]; omega
          · have Hcon := Lib.hid hcon
            clear hcon
            go_quiet (fail)
            go_wp2
            go_roundw
            case rel => exact ⟨j + 1, by omega, by go_num, by rw [HJ.out, Hcon.out]; simp, _, rfl⟩
            case measure => simp [intOf]; omega
        · obtain rfl : j = S.length := by omega
          rw [List.take_length]
          have HK : Hid (dedup (l.take (k + 1)) = addNew S x) := Lib.hid (by rw [dedup_snoc l k hlt, ← HS.out, ← HX.out])
          cases hcon : S.contains x
          · have HA : Hid (addNew S x = S ++ [x]) := Lib.hid (by unfold addNew; rw [hcon]; rfl)
            clear hcon
            have hown1 : (wr.drewN nd).ownsRow w.heap.size 3 1 (Value.slice pv S.length cv) S.length (S.map (Value.int .i64)) := hown
            have hsz := hbel.size
            go_wp2_with (first | (at_builtin; go_must (refine wpList_append_own _ rfl _ _ 28 rfl w.heap.size 3 i0 (.int .i64 0) 1 8 Tryd.underlying28 hi hz0 hz1 hz2 rfl (by decide) _ _ _ rfl (hown1.alloc _) ⟨wr.heap.size, 0, none⟩ 1 1 [.int .i64 x] rfl rfl (cell_one_new _ _ _) (fun x hx => by simp at hx; subst hx; rfl) (by unfold maxLen; omega) (by omega) (by simp; omega) ?_); intro v' w3 hown' hgrow hnil))
            refine ⟨⟨k + 1, by omega, by go_num, ?_, ?_⟩, by simp [intOf]; omega⟩
            · rw [HK.out, HA.out]
              simpa using hown'
            · exact (Below.alloc (show Below w.heap.size w (wr.drewN nd) from ⟨hbel.os, hbel.tape, hbel.output, hbel.size, hbel.block⟩) (by simpa using hbel.size) _).grown hgrow (by simp; omega) (fun q hq => (hown.lt q hq).1)
          · have HA : Hid (addNew S x = S) := Lib.hid (by unfold addNew; rw [hcon]; rfl)
            clear hcon
            go_wp2
            go_roundw
            case rel => exact ⟨k + 1, by omega, by go_num, by rw [HK.out, HA.out]; exact hown, ⟨hbel.os, hbel.tape, hbel.output, hbel.size, hbel.block⟩⟩
            case measure => simp [intOf]; omega
    · obtain rfl : k = l.length := by omega
      rw [List.take_length] at hown
      have hnd := Lib.hid (dedup_nodup l)
      have hv : Hid (∀ s ∈ dedup l, mayS s = true) := Lib.hid (fun s hs => by
        have := HR.out s (dedup_mem l s hs)
        simp [mayS]
        omega)
      have hSl : (dedup l).length ≤ 60 := Nat.le_trans (dedup_len l) h60
      clear HC HR
      generalize dedup l = S at hown hnd hv hSl
      obtain ⟨pv, cv, rfl⟩ := ownsRow_form hown
      go_wp2_with fail
      refine (sys_new hf (Mod.of_below hbel)).mono ?_
      rintro e w1 ⟨m, mb, rfl, hs, hM, g1, g2⟩
      have hblk : Hid (∀ q, (Value.slice pv S.length cv).ownBlock = some q → q ≠ m ∧ q ≠ mb) := Lib.hid (fun q hq => by
        have := (hown.lt q hq).2
        omega)
      replace hown := ownsRow_mod hown hM (by simp)
      clear hM g1 g2 hbel
      go_wp2_with fail
      go_loopw [8] (fun i wi => ∃ k : Nat, k ≤ S.length ∧ i = .int .i64 k ∧ R3 w m mb S (.slice pv S.length cv) k wi) (fun i _ => S.length - (intOf i).toNat)
      case atStart => exact ⟨0, Nat.zero_le _, rfl, MS.new, hs, by simpa using Stk.new, hown⟩
      case round =>
        clear hs hown
        obtain ⟨k, hk, rfl, σ, hs, hst, hown⟩ := hrel
        by_cases hlt : k < S.length
        · obtain ⟨g, y, rfl, hg, hy, hcy⟩ := ownsRow_cell hown hlt
          rw [List.getElem?_map, List.getElem?_eq_getElem hlt] at hy
          cases hy
          have hms := hv.out S[k] (List.getElem_mem _)
          have hgl : g < wr.heap.size := (hown.lt g rfl).2
          generalize hx : S[k] = x at hcy hms
          have HX := Lib.hid hx
          clear hx
          go_wp2_with fail
          refine (PushRun.new hs hms).mono ?_
          rintro e w2 ⟨b, rfl, lo, n1, n2, n3, hrun⟩
          clear hcy
          go_wp2_with fail
          go_loopw [10] (fun kk wj => ∃ j : Nat, j ≤ 3 ∧ kk = .int .i64 j ∧ PushRun w wr m mb b x σ j wj) (fun kk _ => 3 - (intOf kk).toNat)
          case atStart => exact ⟨0, by omega, rfl, hrun⟩
          clear hrun
          obtain ⟨j, hj, rfl, hrun⟩ := hrel
          rcases Nat.lt_or_ge j 3 with hj3 | hj3
          case inl =>
            go_wp2_with (first | (go_at_call 24; go_must (refine (hrun.step lo n1 n2).mono ?_; rintro e w3 ⟨rfl, hrun1⟩)))
            go_roundw
            case rel => first | exact ⟨j + 1, by omega, by go_num, hrun1⟩ | ((repeat apply Exists.intro); exact ⟨⟨j + 1, by omega, by go_num, hrun1⟩, rfl⟩)
            case measure => simp [intOf]; omega
          obtain rfl : j = 3 := by omega
          clear hj hj3
          have h3 := push3 hst hms (by rw [← HX.out]; exact take_not_mem S hnd.out k hlt) (by omega)
          have hq := hblk.out g rfl
          go_wp2_with fail
          refine ⟨⟨k + 1, by omega, by go_num, (pushIt x σ 3).2, hrun.sys, ?_, ?_⟩, by simp [intOf]; omega⟩
          · rw [take_rev S k hlt, HX.out]
            have := h3.1
            simpa using this
          · refine ownsRow_mod hown hrun.mod (fun q hq' => ?_)
            cases hq'
            simp
            omega
        · obtain rfl : k = S.length := by omega
          rw [List.take_length] at hst
          go_upto_if 93 with (fail)
          go_cut [3] from 8 (fun v wc => RF w m mb v wc)
          case rest =>
            obtain ⟨T, pv', cv', σ', t, rfl, hs, hst', ht, hT, hcell⟩ := hcut
            clear hst hown
            have hT9 : R9 w m mb T pv' t T.length wc := ⟨σ', hs, by rw [List.take_length, show t + ((T.length : Int) - (T.length : Int)) = t by omega]; exact hst', hcell⟩
            have ht0 := hst'.t0
            clear hs hst' hcell
            go_wp2_with fail
            go_loopw [28] (fun i wi => ∃ k : Nat, k ≤ T.length ∧ i = .int .i64 ((k : Int) - 1) ∧ R9 w m mb T pv' t k wi) (fun i _ => ((intOf i) + 1).toNat)
            case atStart => exact ⟨T.length, Nat.le_refl _, rfl, hT9⟩
            clear hT9
            obtain ⟨k, hk, rfl, σ9, hs, hst, hcell⟩ := hrel
            rcases Nat.eq_zero_or_pos k with hk0 | hk0
            case inl =>
              subst hk0
              rw [show (((0 : Nat) : Int) - 1) = -1 from by omega]
              go_wp2_with fail
              refine (lives_any w _ hf hs.mod).mono ?_
              rintro e w3 ⟨rfl, hM⟩
              go_wp2
              go_ret
              exact ⟨rfl, hM⟩
            obtain ⟨k, rfl⟩ : ∃ q, k = q + 1 := ⟨k - 1, by omega⟩
            rw [show (((k + 1 : Nat) : Int) - 1) = (k : Int) from by omega]
            have hkl : k < T.length := by omega
            rw [take_rev T k hkl] at hst
            go_wp2_with fail
            refine (PopRun.new hs).mono ?_
            rintro e w2 ⟨b, rfl, lo, n1, n2, n3, hrun⟩
            go_wp2_with fail
            go_loopw [30] (fun kk wj => ∃ j : Nat, j ≤ 3 ∧ kk = .int .i64 j ∧ PopRun w wr m mb b σ9 j wj) (fun kk _ => 3 - (intOf kk).toNat)
            case atStart => exact ⟨0, by omega, rfl, hrun⟩
            clear hrun
            obtain ⟨j, hj, rfl, hrun⟩ := hrel
            rcases Nat.lt_or_ge j 3 with hj3 | hj3
            case inl =>
              go_wp2_with (first | (go_at_call 26; go_must (refine (hrun.step lo n1 n2).mono ?_; rintro e w3 ⟨rfl, hrun1⟩)))
              go_roundw
              case rel => first | exact ⟨j + 1, by omega, by go_num, hrun1⟩ | ((repeat apply Exists.intro); exact ⟨⟨j + 1, by omega, by go_num, hrun1⟩, rfl⟩)
              case measure => simp [intOf]; omega
            obtain rfl : j = 3 := by omega
            clear hj hj3
            have hp3 := pop3 hst (by omega)
            have hcell2 := hcell.mod hrun.mod n3
            go_wp2_with fail
            refine (sys_popGot hrun.sys hrun.obj).mono ?_
            rintro e w4 ⟨rfl, hs4, hM4⟩
            replace hcell2 := hcell2.mod0 hM4
            rw [hp3.2.2.1, hp3.2.2.2]
            obtain ⟨g, rfl, q1, q2, q3⟩ := hcell2 k hkl
            have HT := Lib.hid hcell2
            clear hcell2 hcell
            generalize hTk : T[k] = y at *
            go_wp2_with fail
            refine ⟨⟨k, by omega, rfl, (popIt σ9 3).2, hs4, ?_, HT.out⟩, by simp [intOf]⟩
            rw [show t + ((T.length : Int) - (k : Int)) = t + ((T.length : Int) - ((k + 1 : Nat) : Int)) + 1 by omega]
            exact hp3.1
          case first =>
            have hsl : SliceAt wr pv S m mb := fun j hj => by
              obtain ⟨g, y, hpv, hg, hy, hcy⟩ := ownsRow_cell hown hj
              rw [List.getElem?_map, List.getElem?_eq_getElem hj] at hy
              cases hy
              subst hpv
              exact ⟨g, rfl, (hblk.out g rfl).1, (hblk.out g rfl).2, hcy⟩
            have hgB : Hid (∀ g, pv = some ⟨g, 0, none⟩ → g ≠ m ∧ g ≠ mb ∧ g < wr.heap.size) := Lib.hid (fun g e => by
              subst e
              exact ⟨(hblk.out g rfl).1, (hblk.out g rfl).2, (hown.lt g rfl).2⟩)
            have hcap := Lib.hid (ownsRow_cap hown)
            clear hown
            by_cases hn1 : 1 < S.length
            · obtain ⟨q, hq⟩ : ∃ q, S.length = q + 2 := ⟨S.length - 2, by omega⟩
              have hq1 : q + 1 < S.length := by omega
              have hq0 : q < S.length := by omega
              have hrev : S.reverse = S[q + 1] :: S[q] :: (S.take q).reverse := by
                rw [← take_rev S q hq0, ← take_rev S (q + 1) hq1, List.take_of_length_le (by omega)]
              generalize hs1 : S[q + 1] = s1 at hrev
              generalize hs2 : S[q] = s2 at hrev
              have HS2 := Lib.hid hs2
              clear hs1 hs2
              rw [hrev] at hst
              have HREV := Lib.hid hrev
              clear hrev
              have HQ := Lib.hid hq
              have hn : (S.length : Int) ≤ 60 := by omega
              have hn0 : (0 : Int) ≤ S.length := by omega
              have hms := hst.valid s1 (by simp)
              have hnd1 := hst.nodup
              have hold := pop2_same hst
              clear hq
              go_wp2_with fail
              refine (PopRun.new hs).mono ?_
              rintro e w2 ⟨ob, rfl, olo, on1, on2, on3, orun⟩
              go_wp2_with fail
              refine (orun.step olo on1 on2).mono ?_
              rintro e w3 ⟨rfl, orun1⟩
              go_wp2_with fail
              refine (orun1.step olo on1 on2).mono ?_
              rintro e w4 ⟨rfl, orun2⟩
              have HG : Hid (∀ g, pv = some ⟨g, 0, none⟩ → g ≠ m ∧ g ≠ mb ∧ g < ob) := Lib.hid (fun g e => by have := hgB.out g e; omega)
              have hsl2 := hsl.modn orun2.mod (fun g e => by have := HG.out g e; simp; omega)
              have hs5 := orun2.sys
              have hO := orun2.obj
              have hOk := orun2.ok
              rw [hold.1] at hO hOk
              have hst5 := hst.same hold.2
              clear orun orun1 orun2 hs hsl
              generalize (popIt σ (1 + 1)).2 = σ1 at hs5 hst5
              go_wp2_with fail
              refine (PopRun.new hs5).mono ?_
              rintro e w5 ⟨pb, rfl, plo, pn1, pn2, pn3, prun⟩
              have hob : ob < pb := by have := hO.lt; omega
              replace hsl2 := hsl2.modn prun.mod (fun g e => by have := HG.out g e; simp; omega)
              replace hO := hO.mod prun.mod (by simp; omega)
              go_wp2_with fail
              have hz := prun.obj.lt
              have hz1 := hO.lt
              have hz2 := prun.sys.mem.lt
              have hz3 := prun.sys.mem.ltb
              have hz4 := prun.sys.mod.size
              refine (sys_newPop prun.sys).mono ?_
              rintro e w6 ⟨rfl, hs6, hQ, hM6⟩
              obtain ⟨qb, hqb⟩ : ∃ qb, qb = w5.heap.size := ⟨_, rfl⟩
              rw [← hqb] at hQ ⊢
              have qlo : w.heap.size ≤ qb ∧ qb ≠ m ∧ qb ≠ mb ∧ pb < qb ∧ ob < qb := by omega
              clear hqb hz hz1 hz2 hz3 hz4
              replace hsl2 := hsl2.mod0 hM6
              replace hO := hO.mod hM6 (by simp)
              have hPk := prun.obj.mod hM6 (by simp)
              have prun2 := PopRun.at hs6 hPk
              have hPlt := hPk.lt
              clear prun hs6 hM6
              go_wp2_with fail
              go_loopw [14] (fun kk wj => ∃ j : Nat, j ≤ 3 ∧ kk = .int .i64 j ∧ PopRun w w6 m mb pb σ1 j wj) (fun kk _ => 3 - (intOf kk).toNat)
              case atStart => exact ⟨0, by omega, rfl, prun2⟩
              clear prun2
              obtain ⟨j, hj, rfl, prun2⟩ := hrel
              rcases Nat.lt_or_ge j 3 with hj3 | hj3
              case inl =>
                go_wp2_with (first | (go_at_call 26; go_must (refine (prun2.step plo pn1 pn2).mono ?_; rintro e w3 ⟨rfl, hrun1⟩)))
                go_roundw
                case rel => first | exact ⟨j + 1, by omega, by go_num, hrun1⟩ | ((repeat apply Exists.intro); exact ⟨⟨j + 1, by omega, by go_num, hrun1⟩, rfl⟩)
                case measure => simp [intOf]; omega
              obtain rfl : j = 3 := by omega
              clear hj hj3
              have hp3 := pop3 hst5 (by omega)
              replace hsl2 := hsl2.modn prun2.mod (fun g e => by have := HG.out g e; simp; omega)
              replace hO := hO.mod prun2.mod (by simp; omega)
              replace hQ := hQ.mod prun2.mod (by simp; omega)
              have hP := prun2.obj
              have qrun := PopRun.at prun2.sys hQ
              have hst6 := hp3.1
              have hps := hp3.2.2.1
              have hpo := hp3.2.2.2
              clear prun2 hp3 hst5 hQ
              generalize popIt σ1 3 = PP at hP qrun hst6 hps hpo
              obtain ⟨pp, σ2⟩ := PP
              simp only at hP qrun hst6 hps hpo
              have HPS := Lib.hid hps
              have HPO := Lib.hid hpo
              clear hps hpo
              have hPl := hP.lt
              have hOl := hO.lt
              go_wp2_with fail
              go_loopw [15] (fun kk wj => ∃ j : Nat, j ≤ 3 ∧ kk = .int .i64 j ∧ PopRun w wr m mb qb σ2 j wj) (fun kk _ => 3 - (intOf kk).toNat)
              case atStart => exact ⟨0, by omega, rfl, qrun⟩
              clear qrun
              obtain ⟨j, hj, rfl, qrun⟩ := hrel
              rcases Nat.lt_or_ge j 3 with hj3 | hj3
              case inl =>
                go_wp2_with (first | (go_at_call 26; go_must (refine (qrun.step qlo.1 qlo.2.1 qlo.2.2.1).mono ?_; rintro e w3 ⟨rfl, hrun1⟩)))
                go_roundw
                case rel => first | exact ⟨j + 1, by omega, by go_num, hrun1⟩ | ((repeat apply Exists.intro); exact ⟨⟨j + 1, by omega, by go_num, hrun1⟩, rfl⟩)
                case measure => simp [intOf]; omega
              obtain rfl : j = 3 := by omega
              clear hj hj3
              have hq3 := pop3 hst6 (by omega)
              replace hsl2 := hsl2.modn qrun.mod (fun g e => by have := HG.out g e; simp; omega)
              replace hO := hO.mod qrun.mod (by simp; omega)
              replace hP := hP.mod qrun.mod (by simp; omega)
              have hQ := qrun.obj
              have hs7 := qrun.sys
              have hst7 := hq3.1
              have hqs := hq3.2.2.1
              have hqo := hq3.2.2.2
              clear qrun hq3 hst6 hPl hOl
              generalize popIt σ2 3 = QQ at hQ hs7 hst7 hqs hqo
              obtain ⟨qq, σ3⟩ := QQ
              simp only at hQ hs7 hst7 hqs hqo
              have HQS := Lib.hid hqs
              have HQO := Lib.hid hqo
              clear hqs hqo
              go_wp2_with fail
              refine (sys_popGot hs7 hP).mono ?_
              rintro e w8 ⟨rfl, hs8, hM8⟩
              rw [HPS.out, HPO.out]
              replace hsl2 := hsl2.mod0 hM8
              replace hO := hO.mod hM8 (by simp)
              replace hQ := hQ.mod hM8 (by simp)
              clear hs7 hM8 hP
              go_wp2_with fail
              refine (sys_popGot hs8 hQ).mono ?_
              rintro e w9 ⟨rfl, hs9, hM9⟩
              rw [HQS.out, HQO.out]
              replace hsl2 := hsl2.mod0 hM9
              replace hO := hO.mod hM9 (by simp)
              clear hs8 hM9 hQ
              go_wp2_with fail
              refine (PushRun.new hs9 hms).mono ?_
              rintro e w10 ⟨bb, rfl, blo, bn1, bn2, bn3, brun⟩
              have hOl := hO.lt
              go_wp2_with fail
              go_loopw [21] (fun kk wj => ∃ j : Nat, j ≤ 3 ∧ kk = .int .i64 j ∧ PushRun w w9 m mb bb s1 σ3 j wj) (fun kk _ => 3 - (intOf kk).toNat)
              case atStart => exact ⟨0, by omega, rfl, brun⟩
              clear brun
              obtain ⟨j, hj, rfl, brun⟩ := hrel
              rcases Nat.lt_or_ge j 3 with hj3 | hj3
              case inl =>
                go_wp2_with (first | (go_at_call 24; go_must (refine (brun.step blo bn1 bn2).mono ?_; rintro e w3 ⟨rfl, hrun1⟩)))
                go_roundw
                case rel => first | exact ⟨j + 1, by omega, by go_num, hrun1⟩ | ((repeat apply Exists.intro); exact ⟨⟨j + 1, by omega, by go_num, hrun1⟩, rfl⟩)
                case measure => simp [intOf]; omega
              obtain rfl : j = 3 := by omega
              clear hj hj3
              have hb3 := push3 hst7 hms (by simp at hnd1; simp; exact hnd1.1.2) (by omega)
              have hobb : ob < bb := by omega
              replace hsl2 := hsl2.modn brun.mod (fun g e => by have := HG.out g e; simp; omega)
              replace hO := hO.mod brun.mod (by simp; omega)
              have hs11 := brun.sys
              have hst11 := hb3.1
              clear brun hb3 hst7 hs9 hOl
              generalize (pushIt s1 σ3 3).2 = σ4 at hs11 hst11
              go_wp2_with fail
              refine (sys_popGot hs11 hO).mono ?_
              rintro e w12 ⟨rfl, hs12, hM12⟩
              replace hsl2 := hsl2.mod0 hM12
              replace hO := hO.mod hM12 (by simp)
              clear hs11 hM12
              have hstale : σ4.g 0 0 0 ≠ σ.g 0 0 0 := fun e => by
                have e1 := hst11.tag
                rw [e, hst.tag] at e1
                omega
              have hst13 := pop_stale (nx := topOf (s2 :: (S.take q).reverse)) hstale
              go_wp2_with fail
              refine (sys_popStep hs12 hOk hO olo on1 on2).mono ?_
              rintro e w13 ⟨rfl, hs13, _, hM13⟩
              rw [hst13.1]
              replace hsl2 := hsl2.modn hM13 (fun g e => by have := HG.out g e; simp; omega)
              have hst14 := hst11.same hst13.2
              clear hs12 hO hM13 hst13 hst11 hOk hst hold
              generalize (PopS.step _ σ4).2 = σ5 at hs13 hst14
              obtain ⟨g, rfl, gm, gmb, hcg⟩ := hsl2 q hq0
              rw [show S[q] = s2 from HS2.out] at hcg
              have hq := HQ.out
              rw [hq] at hn hn0 hst14 ⊢
              have HSL := Lib.hid hsl2
              clear hsl2
              have hqn : (q : Int) ≤ 58 := by omega
              have hqcv : q ≤ cv := by have := hcap.out; omega
              go_wp2_with fail
              refine (PopRun.new hs13).mono ?_
              rintro e w14 ⟨rb, rfl, rlo, rn1, rn2, rn3, rrun⟩
              clear hcg
              go_wp2_with fail
              go_loopw [25] (fun kk wj => ∃ j : Nat, j ≤ 3 ∧ kk = .int .i64 j ∧ PopRun w w13 m mb rb σ5 j wj) (fun kk _ => 3 - (intOf kk).toNat)
              case atStart => exact ⟨0, by omega, rfl, rrun⟩
              clear rrun
              obtain ⟨j, hj, rfl, rrun⟩ := hrel
              rcases Nat.lt_or_ge j 3 with hj3 | hj3
              case inl =>
                go_wp2_with (first | (go_at_call 26; go_must (refine (rrun.step rlo rn1 rn2).mono ?_; rintro e w3 ⟨rfl, hrun1⟩)))
                go_roundw
                case rel => first | exact ⟨j + 1, by omega, by go_num, hrun1⟩ | ((repeat apply Exists.intro); exact ⟨⟨j + 1, by omega, by go_num, hrun1⟩, rfl⟩)
                case measure => simp [intOf]; omega
              obtain rfl : j = 3 := by omega
              clear hj hj3
              have hr3 := pop3 hst14 (by omega)
              have hsl3 := HSL.out.mod rrun.mod rn3
              have hs15 := rrun.sys
              have hst15 := hr3.1
              clear rrun hr3 hst14 hs13
              generalize (popIt σ5 3).2 = σ6 at hs15 hst15
              go_wp2_with fail
              refine (sys_load hs15 0 0 0).mono ?_
              rintro e w16 ⟨rfl, hs16, hM16⟩
              have hsl4 := hsl3.modn hM16 (fun g e => by have := HG.out g e; simp; omega)
              go_wp2_with fail
              refine (sys_asHead hs16 _ (hs15.mem.range 0 0 0).1 (hs15.mem.range 0 0 0).2).mono ?_
              rintro e w17 ⟨rfl, hs17, hM17⟩
              have hsl5 := hsl4.mod0 hM17
              rw [hst15.tag]
              go_wp2_with fail
              go_meet
              case rel => exact ⟨S.take q, _, cv, _, _, by rw [List.length_take, Nat.min_eq_left (by omega)], hs17, hst15.same (fun _ _ _ => rfl), by omega, by rw [List.length_take]; omega, hsl5.take q⟩
            · go_wp2_with fail
              go_meet
              case rel => exact ⟨S, pv, cv, σ, S.length, rfl, hs, hst, by omega, by omega, hsl⟩

set_option maxRecDepth 100000 in
set_option maxHeartbeats 1000000 in
theorem stack_long (w : World) (hf : FieldsAt w) (pa : Option Addr) (cap len : Nat) (h : 60 < len) :
    Calls Tryd.prog 4 #[.slice pa len cap] w fun e w' => e = .returned (.bool true) ∧ Mod w w' [] := by
  have h' : (60 : Int) < (len : Int) := by omega
  go_enter Tryd.func4, Tryd.ntmps4
  go_wp2_with fail
  refine (lives_any w _ hf (Mod.refl _ _)).mono ?_
  rintro e w3 ⟨rfl, hM⟩
  go_wp2
  go_ret
  exact ⟨rfl, hM⟩

end Go.Proofs.YtbncdbgeckcobaaDoor.law07
