/- OrphansOrder: the walk. -/
import Derived.Test.YtghkdkdlbkmicaaDoorOrphLives
import Derived.BigQuiet
namespace Go.Proofs.YtghkdkdlbkmicaaDoor.law12
open Go.RowKit

/-- A row of entries of these slots. -/
def ERow (w : World) (v : Value) (L : List Int) : Prop := Row w 50 6 v L.length (flat (L.map E))
theorem ERow.src {w : World} {v : Value} {L : List Int} (h : ERow w v L) : EntSrc w v (L.map E) := by
  unfold EntSrc
  rw [List.length_map]
  exact Row.src h
theorem ERow.nil (w : World) : ERow w (.slice none 0 0) [] := Row.nil _ _ _
theorem ERow.mod {w w' : World} {v : Value} {L : List Int} {S : List Nat} (h : ERow w v L) (hM : Mod w w' S) (hS : ∀ b, v.ownBlock = some b → b ∉ S) : ERow w' v L := Row.mod h hM hS
theorem flat_E_one (s : Int) : flat [E s] = [.int .i64 s, .int .u32 (s + 3), .bool false, .int .u64 (s + 1), .int .u64 (s + 5), .int .u64 (s + 9)] := rfl

/-- The law's state: what was given (the stack), what is to be given. -/
structure Ord (w0 : World) (m mb : Nat) (l : List Int) (i : Nat) (vw vn : Value) (g : Int → Int → Int → Int) (W Nw : List Int) (wr : World) : Prop where
  sys : GSys w0 wr m mb g
  stk : OStk g W
  want : ERow wr vw W
  now : ERow wr vn Nw
  ent : ∀ s, s ∈ W ∨ s ∈ Nw → 0 ≤ s ∧ s < 256 ∧ entOf g s = E s
  nodup : (W ++ Nw).Nodup
  sub : ∀ s, s ∈ W ∨ s ∈ Nw → s ∈ l.take i
  loW : ∀ y, vw.ownBlock = some y → w0.heap.size ≤ y ∧ y ≠ m ∧ y ≠ mb
  loN : ∀ y, vn.ownBlock = some y → w0.heap.size ≤ y ∧ y ≠ m ∧ y ≠ mb
  ne : ∀ y, vn.ownBlock = some y → vw.ownBlock ≠ some y
  len : W.length + Nw.length ≤ i

section
variable {w0 wr w' : World} {m mb i : Nat} {l : List Int} {vw vn : Value} {g : Int → Int → Int → Int} {W Nw : List Int}
theorem Ord.mod0 (h : Ord w0 m mb l i vw vn g W Nw wr) (hM : Mod wr w' []) : Ord w0 m mb l i vw vn g W Nw w' :=
  { h with sys := h.sys.keep0 hM, want := h.want.mod hM (by simp), now := h.now.mod hM (by simp) }
theorem Ord.lates (h : Ord w0 m mb l i vw vn g W Nw wr) : Ord w0 m mb l (i + 1) vw vn g W Nw wr :=
  { h with sub := fun s hs => (List.take_sublist_take_left (Nat.le_succ i)).mem (h.sub s hs), len := by have := h.len; omega }
/-- One entry more is to be given. -/
theorem Ord.more (h : Ord w0 m mb l i vw vn g W Nw wr) (hi : i < l.length) {s : Int} (hs : l[i] = s) (s0 : 0 ≤ s) (s1 : s < 256) (hnew : s ∉ l.take i) {w1 w2 : World} {v' : Value} (h1 : GSys w0 w1 m mb (gof g s)) (hM1 : Mod wr w1 [m, mb]) (hM2 : Mod w1 w2 vn.ownBlock.toList)
    (hr : ERow w2 v' (Nw ++ [s])) (hob : ∀ y, v'.ownBlock = some y → vn.ownBlock = some y ∨ wr.heap.size ≤ y) : Ord w0 m mb l (i + 1) vw v' (gof g s) W (Nw ++ [s]) w2 := by
  have hlo := h.sys.lo
  have hz1 := hM1.size
  have hns : ∀ t, t ∈ W ∨ t ∈ Nw → t ≠ s := fun t ht e => hnew (by rw [← e]; exact h.sub t ht)
  have hwant1 := h.want.mod hM1 (fun y hy => by have := h.loW y hy; simp; exact this.2)
  refine ⟨?_, ostk_gof h.stk, hwant1.mod hM2 (fun y hy hm => h.ne y (by simpa using hm) hy), hr, fun t ht => ?_, ?_, fun t ht => ?_, h.loW, fun y hy => ?_, fun y hy e => ?_, ?_⟩
  · refine h1.keep hM2 (fun y hy => (h.loN y (by simpa using hy)).1) (fun hy => (h.loN m (by simpa using hy)).2.1 rfl) (fun hy => (h.loN mb (by simpa using hy)).2.2 rfl)
  · by_cases e : t = s
    · subst e
      exact ⟨s0, s1, ent_gof s0 s1⟩
    · have ht' : t ∈ W ∨ t ∈ Nw := by
        rcases ht with h | h
        · exact .inl h
        · simp at h
          rcases h with h | h
          · exact .inr h
          · exact absurd h e
      obtain ⟨a, b, c⟩ := h.ent t ht'
      exact ⟨a, b, (ent_gof_ne e).trans c⟩
  · rw [← List.append_assoc, List.nodup_append]
    refine ⟨h.nodup, by simp, fun a ha b hb e => ?_⟩
    simp at hb
    subst hb
    exact hns a (List.mem_append.1 ha) e
  · rw [List.take_succ_eq_append_getElem hi, hs]
    by_cases e : t = s
    · simp [e]
    · have ht' : t ∈ W ∨ t ∈ Nw := by
        rcases ht with h | h
        · exact .inl h
        · simp at h
          rcases h with h | h
          · exact .inr h
          · exact absurd h e
      exact List.mem_append.2 (.inl (h.sub t ht'))
  · rcases hob y hy with e | e
    · exact h.loN y e
    · omega
  · rcases hob y hy with e' | e'
    · exact h.ne y e' e
    · have := h.want.lt e
      omega
  · have := h.len
    simp
    omega
/-- What was to be given is given. -/
theorem Ord.given (h : Ord w0 m mb l i vw vn g W Nw wr) {w1 w2 : World} {g' : Int → Int → Int → Int} {v' : Value} (h1 : GSys w0 w1 m mb g') (hk : OStk g' (Nw ++ W)) (ho : Others g g' Nw) (hM1 : Mod wr w1 [m, mb]) (hM2 : Mod w1 w2 []) (hr : ERow w2 v' (Nw ++ W)) (hob : ∀ y, v'.ownBlock = some y → w1.heap.size ≤ y) :
    Ord w0 m mb l i v' (.slice none 0 0) g' (Nw ++ W) [] w2 := by
  have hlo := h.sys.lo
  have hz1 := hM1.size
  refine ⟨h1.keep0 hM2, hk, hr, ERow.nil _, fun t ht => ?_, ?_, fun t ht => ?_, fun y hy => (by have := hob y hy; omega), fun y hy => (by cases hy), fun y hy => (by cases hy), by have := h.len; simp; omega⟩
  · have ht' : t ∈ W ∨ t ∈ Nw := by
      rcases ht with h | h
      · exact (List.mem_append.1 h).symm
      · cases h
    obtain ⟨a, b, c⟩ := h.ent t ht'
    exact ⟨a, b, (ent_others ho t).trans c⟩
  · rw [List.append_nil]
    exact (List.perm_append_comm.nodup_iff).1 h.nodup
  · refine h.sub t ?_
    rcases ht with h | h
    · exact (List.mem_append.1 h).symm
    · cases h
end

set_option maxRecDepth 100000 in
set_option maxHeartbeats 4000000 in
theorem order_walk (w : World) (hf : FieldsAt w) (pa : Option Addr) (cap : Nat) (l : List Int) (hr : ∀ x ∈ l, 0 ≤ x ∧ x < 256) (hl : l.length ≤ 30)
    (hc : ∀ i (hi : i < l.length), ∃ b off, pa = some ⟨b, off, none⟩ ∧ w.cell? ⟨b, off + i, none⟩ = some (.int .u8 l[i])) (part : Nat) (hpart : part < 256) :
    Calls Tryd.prog 5 #[.slice pa l.length cap, .int .u8 part] w fun e w' => e = .returned (.bool true) ∧ Mod w w' [] := by
  obtain ⟨i0, z0, hi0, hz0, hz1, hz2, hz3⟩ := info_entry
  have HC := Lib.hid hc
  have HR := Lib.hid hr
  clear hc hr
  have hl30 : (l.length : Int) ≤ 30 := by omega
  have hpI : (part : Int) < 256 := by omega
  go_enter Tryd.func5, Tryd.ntmps5
  go_wp2_with fail
  refine (gsys_new hf (Mod.refl _ _)).mono ?_
  rintro e w1 ⟨m, mb, rfl, h1, hM1, l1, l2⟩
  have hord : Ord w m mb l 0 (.slice none 0 0) (.slice none 0 0) (fun _ _ _ => 0) [] [] w1 :=
    ⟨h1, ostk_zero, ERow.nil _, ERow.nil _, by simp, by simp, by simp, fun y hy => (by cases hy), fun y hy => (by cases hy), fun y hy => (by cases hy), by simp⟩
  clear h1 hM1 l1 l2
  go_wp2_with fail
  go_loopw [6, 7, 8] (fun vw vn v wr => ∃ i : Nat, i ≤ l.length ∧ v = .int .i64 i ∧ ∃ g W Nw, Ord w m mb l i vw vn g W Nw wr) (fun _ _ v _ => l.length - (intOf v).toNat)
  case atStart => exact ⟨0, Nat.zero_le _, rfl, _, [], [], hord⟩
  case round =>
    clear hord
    obtain ⟨i, hi, rfl, g, W, Nw, hord⟩ := hrel
    by_cases hlt : i < l.length
    · obtain ⟨ab, ao, rfl, hcx⟩ := HC.out i hlt
      have hx01 := HR.out l[i] (List.getElem_mem _)
      obtain ⟨x, hx⟩ : ∃ x, l[i] = x := ⟨_, rfl⟩
      rw [hx] at hcx hx01
      obtain ⟨xn, rfl⟩ : ∃ xn : Nat, x = xn := ⟨x.toNat, by omega⟩
      have hxn : (xn : Int) < 256 := by omega
      have HX := Lib.hid hx
      clear hx01 hx
      have hiI : (i : Int) < l.length := by omega
      go_wp2_with fail
      go_loopw [9, 10] (fun h v wr => ∃ k : Nat, k ≤ i ∧ v = .int .i64 k ∧ h = .bool (decide ((xn : Int) ∈ l.take k)) ∧ Ord w m mb l i u6 u7 g W Nw wr) (fun _ v _ => i - (intOf v).toNat)
      case atStart => exact ⟨0, Nat.zero_le _, rfl, by simp, hord⟩
      case round =>
        clear hord
        obtain ⟨k, hk, rfl, rfl, hord⟩ := hrel
        by_cases hki : k < i
        · obtain ⟨ab', ao', hpa, hcy⟩ := HC.out k (by omega)
          simp only [Option.some.injEq, Addr.mk.injEq, and_true] at hpa
          obtain ⟨rfl, rfl⟩ := hpa
          have hx01 := HR.out l[k] (List.getElem_mem _)
          have htk : l.take (k + 1) = l.take k ++ [l[k]] := List.take_succ_eq_append_getElem (by omega)
          have hstep : decide ((xn : Int) ∈ l.take (k + 1)) = (decide ((xn : Int) ∈ l.take k) || (l[k] == (xn : Int))) := by
            rw [Bool.eq_iff_iff, Bool.or_eq_true, decide_eq_true_iff, decide_eq_true_iff, beq_iff_eq, htk, List.mem_append, List.mem_singleton]
            exact ⟨fun h => h.elim .inl (fun h => .inr h.symm), fun h => h.elim .inl (fun h => .inr h.symm)⟩
          have HST := Lib.hid hstep
          generalize l[k] = y at hcy hx01 HST
          obtain ⟨yn, rfl⟩ : ∃ yn : Nat, y = yn := ⟨y.toNat, by omega⟩
          have hyn : (yn : Int) < 256 := by omega
          have hcxw := cell_mod hcx hord.sys.mod (by simp)
          have hcyw := cell_mod hcy hord.sys.mod (by simp)
          have hkI : (k : Int) < i := by omega
          have hkl : (k : Int) < l.length := by omega
          clear hx01 htk hstep
          generalize decide ((xn : Int) ∈ l.take k) = had at HST ⊢
          cases had
          all_goals
            go_wp2_with fail
            go_quiet (fail)
            go_wp2_with fail
            refine ⟨?_, by simp [intOf]; omega⟩
            have hfin : ∀ b : Value, b = .bool (decide ((xn : Int) ∈ l.take (k + 1))) → ∃ k' : Nat, k' ≤ i ∧ Value.int .i64 ((k : Int) + 1) = .int .i64 k' ∧ b = .bool (decide ((xn : Int) ∈ l.take k')) ∧ Ord w m mb l i u6 u7 g W Nw (wr.drewN nq) :=
              fun b hb => ⟨k + 1, by omega, by go_num, hb, hord.mod0 ((Mod.refl _ _).drewN nq)⟩
            first | exact hfin _ (by rw [HST.out]; simp) | ((repeat apply Exists.intro); exact ⟨hfin _ (by rw [HST.out]; simp), rfl⟩)
        · obtain rfl : k = i := by omega
          by_cases hin : (xn : Int) ∈ l.take k
          · rw [show decide ((xn : Int) ∈ l.take k) = true by simpa using hin]
            have hord' := hord.lates
            clear hord hin
            go_wp2_with fail
            refine ⟨?_, by simp [intOf]; omega⟩
            first | exact ⟨k + 1, by omega, by go_num, g, W, Nw, hord'⟩ | ((repeat apply Exists.intro); exact ⟨⟨k + 1, by omega, by go_num, g, W, Nw, hord'⟩, rfl⟩)
          · rw [show decide ((xn : Int) ∈ l.take k) = false by simpa using hin]
            have HIN := Lib.hid hin
            have hcxw := cell_mod hcx hord.sys.mod (by simp)
            clear hin
            go_wp2_with fail
            refine (of_any hord.sys xn (by omega) hxn).mono ?_
            rintro e w3 ⟨rfl, h3, hM3⟩
            unfold E Ent6.val
            have hlenW := hord.len
            obtain ⟨pn, cn, rfl, hcn⟩ := Row.form hord.now
            have hrow3 : ERow w3 (.slice pn Nw.length cn) Nw := hord.now.mod hM3 (fun y hy => by have := hord.loN y hy; simp; exact this.2)
            have hmore := fun (w2 : World) (v' : Value) => hord.more (w1 := w3) (w2 := w2) (v' := v') (by omega) HX.out (by omega) hxn HIN.out h3 hM3
            have HMORE := Lib.hid hmore
            have hsz3 := hM3.size
            clear hmore hcxw hord h3 hM3
            go_wp2_with (first | (at_builtin; go_must (refine wpList_append_row _ rfl _ _ 46 rfl 50 i0 z0 6 40 Tryd.underlying46 hi0 hz0 hz1 hz2 hz3 (by decide) (by decide) (.slice pn Nw.length cn) Nw.length (flat (Nw.map E)) rfl (hrow3.mod ((Mod.refl _ []).alloc _) (by simp)) (by omega) _ 1 [.int .i64 xn, .int .u32 ((xn : Int) + 3), .bool false, .int .u64 ((xn : Int) + 1), .int .u64 ((xn : Int) + 5), .int .u64 ((xn : Int) + 9)] rfl (Src.one (cs := #[.int .i64 xn, .int .u32 ((xn : Int) + 3), .bool false, .int .u64 ((xn : Int) + 1), .int .u64 ((xn : Int) + 5), .int .u64 ((xn : Int) + 9)]) (Has.new _ _) rfl (flat_one [E xn])) (by omega) ?_); intro v4 w4 hrow4 hM4 hob4; obtain ⟨p4, c4, rfl, hc4⟩ := Row.form hrow4))
            all_goals
              have hM2 : Mod w3 w4 (Value.slice pn Nw.length cn).ownBlock.toList := ((Mod.refl w3 _).alloc _).call hM4 (fun y hy => .inl hy)
              have hord4 := HMORE.out w4 (.slice p4 (Nw.length + 1) c4) hM2 (by unfold ERow; rw [List.length_append, List.map_append, flat_append]; exact hrow4) (fun y hy => (hob4 y hy).elim .inl (fun e => .inr (by rw [e, World.size_alloc]; omega)))
              clear hM2 hM4 hrow4 hob4 HMORE hrow3
            case roundEnd =>
              refine ⟨?_, by simp [intOf]; omega⟩
              exact ⟨k + 1, by omega, by go_num, _, _, _, hord4⟩
            all_goals
              rw [show ((Nw.length : Int) + 1 + 2) = (((Nw ++ [(xn : Int)]).length + 2 : Nat) : Int) by rw [List.length_append]; simp]
              have hnd := List.nodup_append.1 hord4.nodup
              refine (given_E hord4.sys _ (Nw ++ [(xn : Int)]) W hord4.now.src (fun s hs => by have := hord4.ent s (.inr hs); omega) hnd.2.1 (by simp) (by simp; omega) hord4.stk (fun s hs hw => hnd.2.2 s hw s hs rfl)).mono ?_
              rintro e w5 ⟨rfl, g5, h5, hk5, ho5, hM5⟩
              obtain ⟨pw, cw, rfl, hcw⟩ := Row.form hord4.want
              have hnow5 : ERow w5 (.slice p4 (Nw.length + 1) c4) (Nw ++ [(xn : Int)]) := hord4.now.mod hM5 (fun y hy => by have := hord4.loN y hy; simp; exact this.2)
              have hwant5 : ERow w5 (.slice pw W.length cw) W := hord4.want.mod hM5 (fun y hy => by have := hord4.loW y hy; simp; exact this.2)
              have HG := Lib.hid (fun (w2 : World) (v' : Value) => hord4.given (w2 := w2) (v' := v') h5 hk5 ho5 hM5)
              have HS := Lib.hid hnow5.src
              have HW := Lib.hid hwant5.src
              clear hnow5 hwant5 hnd h5 hk5 ho5 hM5 hord4
              go_wp2_with (first | (at_builtin; refine wpList_append_row _ rfl _ _ 46 rfl 50 i0 z0 6 40 Tryd.underlying46 hi0 hz0 hz1 hz2 hz3 (by decide) (by decide) (.slice none 0 0) 0 [] rfl (Row.nil _ _ _) (by omega) (.slice p4 (Nw.length + 1) c4) _ _ rfl HS.out (by simp; omega) ?_; intro v6 w6 hrow6 hM6 hob6; replace hrow6 : Row w6 50 6 v6 (Nw.length + 1) (flat ((Nw ++ [(xn : Int)]).map E)) := (by rw [Nat.zero_add, List.length_map, List.length_append] at hrow6; exact hrow6); obtain ⟨p6, c6, rfl, hc6⟩ := Row.form hrow6) | (at_builtin; go_must (refine wpList_append_row _ rfl _ _ 46 rfl 50 i0 z0 6 40 Tryd.underlying46 hi0 hz0 hz1 hz2 hz3 (by decide) (by decide) (.slice p6 (Nw.length + 1) c6) (Nw.length + 1) (flat ((Nw ++ [(xn : Int)]).map E)) rfl hrow6 (by omega) (.slice pw W.length cw) _ _ rfl (HW.out.mod hM6 (by simp [Value.ownBlock])) (by simp; omega) ?_); intro v7 w7 hrow7 hM7 hob7; obtain ⟨p7, c7, rfl, hc7⟩ := Row.form hrow7))
              rw [List.length_map] at hrow7 hob7
              have hb6 : ∀ y, (Value.slice p6 (Nw.length + 1) c6).ownBlock = some y → y = w5.heap.size := fun y hy => (hob6 y hy).elim (fun h => by cases h) id
              have hs6 : w5.heap.size ≤ w6.heap.size := hM6.size
              have hM57 : Mod w5 w7 [] := Mod.call (show Mod w5 w6 [] from hM6) hM7 (fun y hy => .inr (by have := hb6 y (by simpa using hy); omega))
              have hfin := HG.out w7 (.slice p7 (Nw.length + 1 + W.length) c7) hM57 (show ERow w7 (.slice p7 (Nw.length + 1 + W.length) c7) (Nw ++ [(xn : Int)] ++ W) by
                unfold ERow
                rw [List.length_append, List.length_append, List.map_append, flat_append]
                exact hrow7) (fun y hy => (hob7 y hy).elim (fun h => by have := hb6 y h; omega) (fun h => by omega))
              refine ⟨?_, by simp [intOf]; omega⟩
              exact ⟨k + 1, by omega, by go_num, _, _, _, hfin⟩
    · obtain rfl : i = l.length := by omega
      clear HC HR
      by_cases hW0 : W = []
      · subst hW0
        obtain ⟨pw, cw, rfl, hcw⟩ := Row.form hord.want
        have hMod := hord.sys.mod
        clear hord
        simp only [List.length_nil]
        go_wp2_with fail
        refine (lives_any w _ hf hMod).mono ?_
        rintro e w2 ⟨rfl, hM2⟩
        clear hMod
        go_wp2_with fail
        go_ret
        exact ⟨rfl, hM2⟩
      · have hwl := hord.len
        have hpos : 0 < W.length := by cases W with | nil => exact absurd rfl hW0 | cons a b => simp
        obtain ⟨pw, cw, rfl, hcw⟩ := Row.form hord.want
        have hposI : (W.length : Int) ≠ 0 := by omega
        go_wp2_with fail
        rw [show (5 * (W.length : Int) + 2) = ((5 * W.length + 2 : Nat) : Int) by omega]
        have hE : ∀ s, s ∈ W → 0 ≤ s ∧ s < 256 ∧ entOf g s = E s := fun s hs => hord.ent s (.inl hs)
        have hnd : W.Nodup := (List.nodup_append.1 hord.nodup).1
        refine (taken_E hord.sys W hW0 (by omega) hord.stk (fun s hs => (hE s hs).2.2)).mono ?_
        rintro e w2 ⟨v2, rfl, hv2, hb2, hM2, g2, h2, hk2, ho2⟩
        obtain ⟨p2, c2, rfl, hc2⟩ := hv2.form
        have hw2 := hord.want.src.mod hM2 (fun y hy => by have := hord.loW y hy; simp; exact this.2)
        have hlo := hord.sys.lo
        have hzm := hord.sys.mod
        have hloW := hord.loW
        clear hord
        rw [List.length_map] at hv2 hb2 hc2
        go_wp2_with fail
        refine (taken_none h2 hk2).mono ?_
        rintro e w3 ⟨v3, rfl, hv3, h3, hM3⟩
        obtain ⟨p3, c3, rfl, hc3⟩ := hv3.form
        have hlt2 : ∀ y, (Value.slice p2 W.length c2).ownBlock = some y → wr.heap.size ≤ y ∧ y ≠ m ∧ y ≠ mb := fun y hy => by
          have := hb2 y hy
          omega
        have hs3 : EntSrc w3 (.slice p2 W.length c2) (W.map E) := hv2.mod hM3 (fun y hy => by have := hlt2 y hy; simp; omega)
        have hw3 : EntSrc w3 (.slice pw W.length cw) (W.map E) := hw2.mod hM3 (fun y hy => by have := hloW y hy; simp; exact this.2)
        clear hv2 hw2 hv3 h2 hb2
        simp only [List.length_nil]
        go_wp2_with fail
        refine (same_any w3 _ _ (W.map E) hs3 hw3 (by simp; omega)).mono ?_
        rintro e w4 ⟨rfl, hM4⟩
        have h4 := h3.keep0 hM4
        have hs4 : EntSrc w4 (.slice p2 W.length c2) (W.map E) := hs3.mod hM4 (by simp)
        have hw4 : EntSrc w4 (.slice pw W.length cw) (W.map E) := hw3.mod hM4 (by simp)
        clear hs3 hw3 h3
        go_wp2_with fail
        rw [show ((W.length : Int) + 2) = ((W.length + 2 : Nat) : Int) by omega]
        refine (given_E h4 _ W [] hs4 (fun s hs => by have := hE s hs; omega) hnd hpos (by omega) hk2 (fun s _ hs => by cases hs)).mono ?_
        rintro e w5 ⟨rfl, g5, h5, hk5, ho5, hM5⟩
        rw [List.append_nil] at hk5
        have hE5 : ∀ s, s ∈ W → entOf g5 s = E s := fun s hs => (ent_others ho5 s).trans ((ent_others ho2 s).trans (hE s hs).2.2)
        have hw5 : EntSrc w5 (.slice pw W.length cw) (W.map E) := hw4.mod hM5 (fun y hy => by have := hloW y hy; simp; exact this.2)
        clear h4 hs4 hw4 ho2 ho5 hk2
        go_wp2_with fail
        rw [show (5 * (W.length : Int) + 2) = ((5 * W.length + 2 : Nat) : Int) by omega]
        refine (taken_E h5 W hW0 (by omega) hk5 hE5).mono ?_
        rintro e w6 ⟨v6, rfl, hv6, hb6, hM6, g6, h6, hk6, ho6⟩
        obtain ⟨p6, c6, rfl, hc6⟩ := hv6.form
        have hw6 : EntSrc w6 (.slice pw W.length cw) (W.map E) := hw5.mod hM6 (fun y hy => by have := hloW y hy; simp; exact this.2)
        rw [List.length_map] at hv6 hb6 hc6
        have hMod6 := h6.mod
        clear h5 hw5 h6 hk5 hk6 ho6
        go_wp2_with fail
        refine (same_any w6 _ _ (W.map E) hv6 hw6 (by simp; omega)).mono ?_
        rintro e w7 ⟨rfl, hM7⟩
        clear hv6 hw6
        go_wp2_with fail
        refine (lives_any w w7 hf (hMod6.call hM7 (by simp))).mono ?_
        rintro e w8 ⟨rfl, hM8⟩
        go_wp2_with fail
        go_ret
        exact ⟨rfl, hM8⟩

theorem order_long (w : World) (hf : FieldsAt w) (pa : Option Addr) (len cap : Nat) (h : 30 < len) (part : Nat) :
    Calls Tryd.prog 5 #[.slice pa len cap, .int .u8 part] w fun e w' => e = .returned (.bool true) ∧ Mod w w' [] := by
  have h' : (30 : Int) < (len : Int) := by omega
  go_enter Tryd.func5, Tryd.ntmps5
  go_wp2_with fail
  refine (lives_any w _ hf (Mod.refl _ _)).mono ?_
  rintro e w3 ⟨rfl, hM3⟩
  go_wp2
  go_ret
  exact ⟨rfl, hM3⟩

/-- The law, whatever the input. -/
theorem all (w : World) (hf : FieldsAt w) (pa : Option Addr) (cap : Nat) (l : List Int) (hr : ∀ x ∈ l, 0 ≤ x ∧ x < 256)
    (hc : ∀ i (hi : i < l.length), ∃ b off, pa = some ⟨b, off, none⟩ ∧ w.cell? ⟨b, off + i, none⟩ = some (.int .u8 l[i])) (part : Nat) (hpart : part < 256) :
    Calls Tryd.prog 5 #[.slice pa l.length cap, .int .u8 part] w fun e w' => e = .returned (.bool true) ∧ Mod w w' [] := by
  rcases Nat.lt_or_ge 30 l.length with h | h
  · exact order_long w hf pa l.length cap h part
  · exact order_walk w hf pa cap l hr h hc part hpart

end Go.Proofs.YtghkdkdlbkmicaaDoor.law12
