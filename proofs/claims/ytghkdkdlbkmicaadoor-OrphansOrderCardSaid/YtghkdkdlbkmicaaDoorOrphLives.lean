/- Layer 12's law: one alone gives, and takes. -/
import Derived.Test.YtghkdkdlbkmicaaDoorOrphLaw
import Derived.Test.YtghkdkdlbkmicaaDoorOrphRun
import Derived.LoopTactic
import Derived.OwnWalk
import Derived.Deep.QuietTactic
namespace Go.Proofs.YtghkdkdlbkmicaaDoor.law12
open Go.RowKit

set_option maxRecDepth 100000 in
set_option maxHeartbeats 2000000 in
theorem given_any {w0 w : World} {m mb : Nat} {σ : MS} (h : Sys w0 w m mb σ) (va : Value) (l : List Ent6) (hsrc : EntSrc w va l) (hl : l.length ≤ 1000) (ss : List Int) (hss : (mayScan l []).getD [] = ss) (N : Nat) (hN1 : 1 ≤ N) (hN2 : N ≤ 10000) (g' : GiveS) (σ' : MS) (hrun : GAt (GiveS.new ss) σ N g' σ') (hover : g'.line = 0) :
    Calls Tryd.prog 26 #[.pointer (some ⟨m, 0, none⟩), va, .int .i64 N] w fun e w' => e = .returned (.bool true) ∧ Sys w0 w' m mb σ' ∧ Mod w w' [m, mb] := by
  have hl1 := h.mem.lt
  have hl2 := h.mem.ltb
  have hsz := h.mod.size
  go_enter Tryd.func26, Tryd.ntmps26
  go_wp2_with fail
  refine (newGive_any w va l hsrc hl).mono ?_
  rintro e w1 ⟨b, v, rfl, hb, hG, hM0, hlo⟩
  rw [hss] at hG
  have hs0 := h.keep hM0 (by simp) (by simp) (by simp)
  have hbm : b ≠ m ∧ b ≠ mb ∧ w0.heap.size ≤ b := by omega
  have hvm : v.ownBlock ≠ some m ∧ v.ownBlock ≠ some mb := ⟨fun e => by have := hlo _ e; omega, fun e => by have := hlo _ e; omega⟩
  have HSS := Lib.hid hss
  have HLO := Lib.hid hlo
  have HRUN := Lib.hid hrun
  have HOV := Lib.hid hover
  clear hss hlo hrun hover
  go_wp2_with fail
  go_loopw [8] (fun x wr => ∃ n : Nat, n < N ∧ x = .int .i64 (n + 1) ∧ Sys w0 wr m mb (runOf GiveS.step (GiveS.new ss) σ n).2 ∧ GiveAt wr b v (runOf GiveS.step (GiveS.new ss) σ n).1 ∧ Mod w wr [m, mb]) (fun x _ => 20000 - (intOf x).toNat)
  case atStart => exact ⟨0, by omega, rfl, hs0, hG, hM0.wider (by simp)⟩
  case round =>
    clear hG hM0 hs0
    obtain ⟨n, hn, rfl, hs, hG, hM⟩ := hrel
    have hstep := sys_giveStep hs (HRUN.out.ok n hn) hG hbm.2.2 hbm.1 hbm.2.1 hvm.1 hvm.2
    have HST := Lib.hid hstep
    clear hstep
    rcases Nat.lt_or_ge (n + 1) N with hlt | hge
    · have hltI : (n : Int) + 1 < N := by omega
      go_wp2_with fail
      refine HST.out.mono ?_
      rintro e w2 ⟨rfl, hs2, hG2, hM2⟩
      clear HST hs hG
      have hs3 : Sys w0 w2 m mb (runOf GiveS.step (GiveS.new ss) σ (n + 1)).2 := hs2
      have hG3 : GiveAt w2 b v (runOf GiveS.step (GiveS.new ss) σ (n + 1)).1 := hG2
      have hline : ((runOf GiveS.step (GiveS.new ss) σ n).1.step (runOf GiveS.step (GiveS.new ss) σ n).2).1.line = (runOf GiveS.step (GiveS.new ss) σ (n + 1)).1.line := rfl
      rw [hline, show ((runOf GiveS.step (GiveS.new ss) σ (n + 1)).1.line == 0) = false by simpa using HRUN.out.on (n + 1) (by omega) hlt]
      clear hs2 hG2 hline
      have hM3 : Mod w w2 [m, mb] := hM.call hM2 (by intro c hc; simp at hc; rcases hc with rfl | rfl | rfl; exact .inl (by simp); exact .inl (by simp); exact .inr hb)
      have HS3 := Lib.hid hs3
      have HG3 := Lib.hid hG3
      clear hs3 hG3 hM2 hM
      go_wp2_with fail
      exact ⟨⟨n + 1, hlt, by go_num, HS3.out, HG3.out, hM3⟩, by simp [intOf]; omega⟩
    · obtain rfl : N = n + 1 := by omega
      go_wp2_with fail
      refine HST.out.mono ?_
      rintro e w2 ⟨rfl, hs2, hG2, hM2⟩
      clear HST hs hG
      have hs3 : Sys w0 w2 m mb (runOf GiveS.step (GiveS.new ss) σ (n + 1)).2 := hs2
      have hline : ((runOf GiveS.step (GiveS.new ss) σ n).1.step (runOf GiveS.step (GiveS.new ss) σ n).2).1.line = (runOf GiveS.step (GiveS.new ss) σ (n + 1)).1.line := rfl
      have hrn := HRUN.out.run
      rw [hline]
      rw [hrn] at hs3 ⊢
      rw [show ((g', σ').1.line == 0) = true by simpa using HOV.out]
      clear hs2 hG2 hline hrn
      have hM3 : Mod w w2 [m, mb] := hM.call hM2 (by intro c hc; simp at hc; rcases hc with rfl | rfl | rfl; exact .inl (by simp); exact .inl (by simp); exact .inr hb)
      go_wp2_with fail
      go_ret
      exact ⟨rfl, hs3, hM3⟩

/-- What 'taken' leaves. -/
def TakenPost (w0 w : World) (m mb : Nat) (l : List Ent6) (σ' : MS) (e : Ending) (w' : World) : Prop :=
  ∃ v, e = .returned (.tuple #[v, .bool true]) ∧ EntSrc w' v l ∧ (∀ y, v.ownBlock = some y → w.heap.size ≤ y) ∧ Sys w0 w' m mb σ' ∧ Mod w w' [m, mb]

set_option maxRecDepth 100000 in
set_option maxHeartbeats 2000000 in
theorem taken_any {w0 w : World} {m mb : Nat} {σ : MS} (h : Sys w0 w m mb σ) (N : Nat) (hN1 : 1 ≤ N) (hN2 : N ≤ 10000) (t' : TakeS) (σ' : MS) (hrun : TAt TakeS.new σ N t' σ') (hover : t'.line = 0) (hgl : t'.got.length ≤ 1000) :
    Calls Tryd.prog 27 #[.pointer (some ⟨m, 0, none⟩), .int .i64 N] w (TakenPost w0 w m mb t'.got σ') := by
  have hl1 := h.mem.lt
  have hl2 := h.mem.ltb
  have hsz := h.mod.size
  obtain ⟨b, hb⟩ : ∃ b, b = w.heap.size := ⟨_, rfl⟩
  have hbm : b ≠ m ∧ b ≠ mb ∧ w0.heap.size ≤ b ∧ w.heap.size ≤ b := by omega
  have HRUN := Lib.hid hrun
  have HOV := Lib.hid hover
  have HB := Lib.hid hb
  clear hrun hover hb
  go_enter Tryd.func27, Tryd.ntmps27
  go_wp2_with fail
  refine (newTake_any w).mono ?_
  rintro e w1 ⟨rfl, rfl⟩
  rw [← HB.out]
  have hT : TakeAt (w.alloc (TakeS.new.obj (.slice none 0 0))) b (.slice none 0 0) TakeS.new := ⟨Has.new_at _ _ _ HB.out, Row.nil _ _ _, by simp [Value.ownBlock]⟩
  have hM0 : Mod w (w.alloc (TakeS.new.obj (.slice none 0 0))) [] := (Mod.refl _ _).alloc _
  have hs0 := h.keep hM0 (by simp) (by simp) (by simp)
  generalize w.alloc (TakeS.new.obj (.slice none 0 0)) = w1 at hT hM0 hs0 ⊢
  clear HB
  go_wp2_with fail
  go_loopw [7] (fun x wr => ∃ n : Nat, n < N ∧ x = .int .i64 (n + 1) ∧ Sys w0 wr m mb (runOf TakeS.step TakeS.new σ n).2 ∧ (∃ v, TakeAt wr b v (runOf TakeS.step TakeS.new σ n).1 ∧ ∀ y, v.ownBlock = some y → w.heap.size ≤ y) ∧ Mod w wr [m, mb]) (fun x _ => 20000 - (intOf x).toNat)
  case atStart => exact ⟨0, by omega, rfl, hs0, ⟨_, hT, fun y hy => by cases hy⟩, hM0.wider (by simp)⟩
  case round =>
    clear hT hM0 hs0
    obtain ⟨n, hn, rfl, hs, ⟨v, hT, hv⟩, hM⟩ := hrel
    have hvm : v.ownBlock ≠ some m ∧ v.ownBlock ≠ some mb := ⟨fun e => by have := hv _ e; omega, fun e => by have := hv _ e; omega⟩
    have hstep := sys_takeStep hs (HRUN.out.ok n hn) hT hbm.2.2.1 hbm.1 hbm.2.1 hvm.1 hvm.2 (fun y hy => by have := hv y hy; omega)
    have HST := Lib.hid hstep
    have HV := Lib.hid hv
    clear hstep hv
    rcases Nat.lt_or_ge (n + 1) N with hlt | hge
    · have hltI : (n : Int) + 1 < N := by omega
      go_wp2_with fail
      refine HST.out.mono ?_
      rintro e w2 ⟨rfl, hs2, hM2, v2, hT2, hv2⟩
      clear HST hs hT
      have hs3 : Sys w0 w2 m mb (runOf TakeS.step TakeS.new σ (n + 1)).2 := hs2
      have hT3 : TakeAt w2 b v2 (runOf TakeS.step TakeS.new σ (n + 1)).1 := hT2
      have hline : ((runOf TakeS.step TakeS.new σ n).1.step (runOf TakeS.step TakeS.new σ n).2).1.line = (runOf TakeS.step TakeS.new σ (n + 1)).1.line := rfl
      rw [hline, show ((runOf TakeS.step TakeS.new σ (n + 1)).1.line == 0) = false by simpa using HRUN.out.on (n + 1) (by omega) hlt]
      clear hs2 hT2 hline
      have hM3 : Mod w w2 [m, mb] := hM.call hM2 (by intro c hc; simp at hc; rcases hc with rfl | rfl | rfl | hc; exact .inl (by simp); exact .inl (by simp); exact .inr hbm.2.2.2; exact .inr (HV.out c hc))
      have hv3 : ∀ y, v2.ownBlock = some y → w.heap.size ≤ y := fun y hy => by
        rcases hv2 y hy with e | e
        · exact HV.out y e
        · have := hM.size
          omega
      have HS3 := Lib.hid hs3
      have HT3 := Lib.hid hT3
      have HV3 := Lib.hid hv3
      clear hs3 hT3 hM2 hM hv2 hv3 HV
      go_wp2_with fail
      exact ⟨⟨n + 1, hlt, by go_num, HS3.out, ⟨v2, HT3.out, HV3.out⟩, hM3⟩, by simp [intOf]; omega⟩
    · obtain rfl : N = n + 1 := by omega
      go_wp2_with fail
      refine HST.out.mono ?_
      rintro e w2 ⟨rfl, hs2, hM2, v2, hT2, hv2⟩
      clear HST hs hT
      have hs3 : Sys w0 w2 m mb (runOf TakeS.step TakeS.new σ (n + 1)).2 := hs2
      have hT3 : TakeAt w2 b v2 (runOf TakeS.step TakeS.new σ (n + 1)).1 := hT2
      have hline : ((runOf TakeS.step TakeS.new σ n).1.step (runOf TakeS.step TakeS.new σ n).2).1.line = (runOf TakeS.step TakeS.new σ (n + 1)).1.line := rfl
      have hrn := HRUN.out.run
      rw [hline]
      rw [hrn] at hs3 hT3 ⊢
      simp only at hT3 hs3
      rw [show ((t', σ').1.line == 0) = true by simpa using HOV.out]
      clear hs2 hT2 hline hrn
      have hM3 : Mod w w2 [m, mb] := hM.call hM2 (by intro c hc; simp at hc; rcases hc with rfl | rfl | rfl | hc; exact .inl (by simp); exact .inl (by simp); exact .inr hbm.2.2.2; exact .inr (HV.out c hc))
      clear hv2 hM hM2
      go_wp2_with fail
      refine (takeGot_any w2 b v2 t' hT3 hgl HOV.out).mono ?_
      rintro e w4 ⟨v4, rfl, hE4, hM4, hv4⟩
      have HV4 := Lib.hid hv4
      have hsz3 := hM3.size
      clear hv4
      go_wp2_with fail
      go_ret2
      exact ⟨v4, rfl, hE4, fun y hy => by have := HV4.out y hy; omega, hs3.keep hM4 (by simp) (by simp) (by simp), hM3.call hM4 (by simp)⟩

set_option maxRecDepth 100000 in
set_option maxHeartbeats 2000000 in
theorem same_any (w : World) (va vb : Value) (l : List Ent6) (ha : EntSrc w va l) (hb : EntSrc w vb l) (hl : l.length ≤ 1000) :
    Calls Tryd.prog 28 #[va, vb] w fun e w' => e = .returned (.bool true) ∧ Mod w w' [] := by
  obtain ⟨pa, ca, rfl, hca⟩ := ha.form
  obtain ⟨pb, cb, rfl, hcb⟩ := hb.form
  have HA := Lib.hid ha
  have HB := Lib.hid hb
  clear ha hb
  go_enter Tryd.func28, Tryd.ntmps28
  go_wp2_with fail
  go_loopw [5] (fun v wr => ∃ k : Nat, k ≤ l.length ∧ v = .int .i64 k ∧ Mod w wr []) (fun v _ => l.length - (intOf v).toNat)
  case atStart => exact ⟨0, Nat.zero_le _, rfl, Mod.refl _ _⟩
  case round =>
    obtain ⟨k, hk, rfl, hM⟩ := hrel
    by_cases hlt : k < l.length
    · obtain ⟨b, off, c2, hv, hc2, hcell⟩ := ent_cells HA.out hlt
      simp only [Value.slice.injEq] at hv
      obtain ⟨rfl, _, rfl⟩ := hv
      obtain ⟨b', off', c2', hv', hc2', hcell'⟩ := ent_cells HB.out hlt
      simp only [Value.slice.injEq] at hv'
      obtain ⟨rfl, _, rfl⟩ := hv'
      have hkI : (k : Int) < l.length := by omega
      have q0 : wr.cell? ⟨b, off + k * 6, none⟩ = _ := cell_mod (hcell 0 _ rfl) hM (by simp)
      have q1 := cell_mod (hcell 1 _ rfl) hM (by simp)
      have q2 := cell_mod (hcell 2 _ rfl) hM (by simp)
      have q3 := cell_mod (hcell 3 _ rfl) hM (by simp)
      have q4 := cell_mod (hcell 4 _ rfl) hM (by simp)
      have q5 := cell_mod (hcell 5 _ rfl) hM (by simp)
      have r0 : wr.cell? ⟨b', off' + k * 6, none⟩ = _ := cell_mod (hcell' 0 _ rfl) hM (by simp)
      have r1 := cell_mod (hcell' 1 _ rfl) hM (by simp)
      have r2 := cell_mod (hcell' 2 _ rfl) hM (by simp)
      have r3 := cell_mod (hcell' 3 _ rfl) hM (by simp)
      have r4 := cell_mod (hcell' 4 _ rfl) hM (by simp)
      have r5 := cell_mod (hcell' 5 _ rfl) hM (by simp)
      clear hcell hcell'
      generalize l[k] = en at *
      go_wp2_with fail
      go_quiet (fail)
      go_wp2_with fail
      exact ⟨⟨k + 1, by omega, by go_num, hM.drewN nq⟩, by simp [intOf]; omega⟩
    · obtain rfl : k = l.length := by omega
      go_wp2_with fail
      go_ret
      exact ⟨rfl, hM⟩

theorem gof_at {g : Int → Int → Int → Int} {s k a f : Int} (h : ¬(k = 9 ∧ a = s ∧ (f = 0 ∨ f = 1 ∨ f = 3 ∨ f = 4))) : gof g s k a f = g k a f := by
  unfold gof gput
  rw [if_neg (by omega), if_neg (by omega), if_neg (by omega), if_neg (by omega)]
theorem ent_gof {g : Int → Int → Int → Int} {s : Int} (s0 : 0 ≤ s) (s1 : s < 256) : entOf (gof g s) s = E s := by
  unfold entOf E gof gput
  simp
  exact hdrG_hdrW (by omega) (by omega) (by omega) (by omega)
theorem ent_gof_ne {g : Int → Int → Int → Int} {s t : Int} (h : t ≠ s) : entOf (gof g s) t = entOf g t := by
  unfold entOf
  rw [gof_at (by omega), gof_at (by omega), gof_at (by omega), gof_at (by omega)]
theorem ostk_gof {g : Int → Int → Int → Int} {s : Int} {L : List Int} (h : OStk g L) : OStk (gof g s) L :=
  ⟨by rw [gof_at (by omega)]; exact h.top, h.links.other (fun t _ => gof_at (by omega)), h.slots⟩
theorem ent_others {g g' : Int → Int → Int → Int} {ss : List Int} (h : Others g g' ss) (s : Int) : entOf g' s = entOf g s := by
  unfold entOf
  rw [h 9 s 0 (by omega) (by omega), h 9 s 1 (by omega) (by omega), h 9 s 3 (by omega) (by omega), h 9 s 4 (by omega) (by omega)]

/-- Slots that are good, none twice, may be given. -/
theorem mayScan_E (ss : List Int) : ∀ (acc : List Int), (∀ s ∈ ss, 0 ≤ s ∧ s < 256) → ss.Nodup → (∀ s ∈ ss, s ∉ acc) → mayScan (ss.map E) acc = some (acc ++ ss) := by
  induction ss with
  | nil => intro acc _ _ _; simp [mayScan]
  | cons x ss ih =>
    intro acc h1 h2 h3
    have hx := h1 x (by simp)
    rw [List.nodup_cons] at h2
    simp only [List.map_cons, mayScan]
    rw [if_neg, ih (acc ++ [(E x).slot]) (fun s hs => h1 s (by simp [hs])) h2.2 (fun s hs hm => ?_)]
    · simp [E]
    · rcases List.mem_append.1 hm with h | h
      · exact h3 s (by simp [hs]) h
      · simp [E] at h
        exact h2.1 (by rw [← h]; exact hs)
    · rintro (h | h | h | h)
      · simp [E] at h
        omega
      · simp [E] at h
        omega
      · simp [E] at h
      · exact h3 x (by simp) h

/-- One alone gives entries of the law's. -/
theorem given_E {w0 w : World} {m mb : Nat} {g : Int → Int → Int → Int} (h : GSys w0 w m mb g) (va : Value) (ss L : List Int) (hsrc : EntSrc w va (ss.map E)) (hss : ∀ s ∈ ss, 0 ≤ s ∧ s < 256) (hn : ss.Nodup) (h1 : 1 ≤ ss.length) (hl : ss.length ≤ 1000) (hL : OStk g L) (hd : ∀ s ∈ ss, s ∉ L) :
    Calls Tryd.prog 26 #[.pointer (some ⟨m, 0, none⟩), va, .int .i64 (ss.length + 2 : Nat)] w fun e w' => e = .returned (.bool true) ∧ ∃ g', GSys w0 w' m mb g' ∧ OStk g' (ss ++ L) ∧ Others g g' ss ∧ Mod w w' [m, mb] := by
  obtain ⟨σ, hs, rfl⟩ := h
  obtain ⟨g', σ', k1, k2, k3, k4⟩ := give_alone hss hn h1 hl hL hd hs.mem.range
  have hsc : (mayScan (ss.map E) []).getD [] = ss := by
    rw [mayScan_E ss [] hss hn (by simp)]
    rfl
  refine (given_any hs va (ss.map E) hsrc (by simpa using hl) ss hsc (ss.length + 2) (by omega) (by omega) g' σ' k1 k2).mono ?_
  rintro e w' ⟨rfl, h', hM⟩
  exact ⟨rfl, σ'.g, ⟨σ', h', rfl⟩, k3, k4, hM⟩
/-- One alone takes them. -/
theorem taken_E {w0 w : World} {m mb : Nat} {g : Int → Int → Int → Int} (h : GSys w0 w m mb g) (L : List Int) (hne : L ≠ []) (hlen : L.length ≤ 256) (hL : OStk g L) (hE : ∀ s ∈ L, entOf g s = E s) :
    Calls Tryd.prog 27 #[.pointer (some ⟨m, 0, none⟩), .int .i64 (5 * L.length + 2 : Nat)] w fun e w' =>
      ∃ v, e = .returned (.tuple #[v, .bool true]) ∧ EntSrc w' v (L.map E) ∧ (∀ y, v.ownBlock = some y → w.heap.size ≤ y) ∧ Mod w w' [m, mb] ∧ ∃ g', GSys w0 w' m mb g' ∧ OStk g' [] ∧ Others g g' [] := by
  obtain ⟨σ, hs, rfl⟩ := h
  obtain ⟨t', σ', k1, k2, k3, k4, k5⟩ := take_alone hL hne hlen hs.mem.range
  have hgot : t'.got = L.map E := by
    rw [k3]
    exact List.map_congr_left hE
  refine (taken_any hs (5 * L.length + 2) (by omega) (by omega) t' σ' k1 k2 (by rw [hgot]; simp; omega)).mono ?_
  rintro e w' ⟨v, rfl, h1, h2, h3, h4⟩
  rw [hgot] at h1
  exact ⟨v, rfl, h1, h2, h4, σ'.g, ⟨σ', h3, rfl⟩, k4, k5⟩
theorem taken_none {w0 w : World} {m mb : Nat} {g : Int → Int → Int → Int} (h : GSys w0 w m mb g) (hL : OStk g []) :
    Calls Tryd.prog 27 #[.pointer (some ⟨m, 0, none⟩), .int .i64 1] w fun e w' =>
      ∃ v, e = .returned (.tuple #[v, .bool true]) ∧ EntSrc w' v [] ∧ GSys w0 w' m mb g ∧ Mod w w' [m, mb] := by
  obtain ⟨σ, hs, rfl⟩ := h
  obtain ⟨t', σ', k1, k2, k3, k4⟩ := take_none hL
  refine (taken_any hs 1 (by omega) (by omega) t' σ' k1 k2 (by rw [k3]; simp)).mono ?_
  rintro e w' ⟨v, rfl, h1, h2, h3, h4⟩
  rw [k3] at h1
  exact ⟨v, rfl, h1, ⟨σ', h3, k4⟩, h4⟩

theorem ostk_zero : OStk (fun _ _ _ => 0) [] := ⟨rfl, trivial, by simp⟩

theorem src_lit {w : World} {b n : Nat} {cs : Array Value} {T : TypeId} {l : List Ent6} (h : Has w b (.cells cs T)) (hc : cs.toList = flat l) (hn : l.length = n) : EntSrc w (.slice (some ⟨b, 0, none⟩) n n) l := by
  subst hn
  refine .inr ⟨b, 0, l.length, rfl, Nat.le_refl _, flat_len l, h.lt, fun j u hu => ?_, flat_one l⟩
  rw [h.cell, ← hu, ← hc]
  simp

set_option maxRecDepth 100000 in
set_option maxHeartbeats 4000000 in
theorem lives_any (w0 w : World) (hf : FieldsAt w0) (hM : Mod w0 w []) :
    Calls Tryd.prog 18 #[] w fun e w' => e = .returned (.bool true) ∧ Mod w0 w' [] := by
  go_enter Tryd.func18, Tryd.ntmps18
  go_wp2_with fail
  refine (gsys_new hf hM).mono ?_
  rintro e w1 ⟨m, mb, rfl, h1, hM1, l1, l2⟩
  go_wp2_with fail
  refine (taken_none h1 ostk_zero).mono ?_
  rintro e w2 ⟨v2, rfl, hs2, h2, hM2⟩
  obtain ⟨pa2, c2, rfl, hc2⟩ := hs2.form
  clear h1 hM1 hM2 hs2 hc2
  simp only [List.length_nil]
  go_wp2_with fail
  refine (of_any h2 7 (by omega) (by omega)).mono ?_
  rintro e w3 ⟨rfl, h3, hM3⟩
  have hk3 := ostk_gof (s := 7) ostk_zero
  have e37 : entOf (gof (fun _ _ _ => 0) 7) 7 = E 7 := ent_gof (by omega) (by omega)
  generalize gof (fun _ _ _ => 0) 7 = g3 at h3 hk3 e37
  clear h2 hM3
  unfold E Ent6.val
  go_wp2_with fail
  obtain ⟨A, hAe⟩ : ∃ A, A = w3.heap.size := ⟨_, rfl⟩
  have hA := Has.new_at w3 (.cells #[.int .i64 7, .int .u32 10, .bool false, .int .u64 8, .int .u64 12, .int .u64 16] 50) A hAe
  have hAlo : A ≠ m ∧ A ≠ mb := by
    have := h3.lo
    omega
  have hAM : Mod w3 (w3.alloc (.cells #[.int .i64 7, .int .u32 10, .bool false, .int .u64 8, .int .u64 12, .int .u64 16] 50)) [] := (Mod.refl w3 []).alloc (.cells #[.int .i64 7, .int .u32 10, .bool false, .int .u64 8, .int .u64 12, .int .u64 16] 50)
  have hA4 := h3.keep0 hAM
  rw [← hAe]
  clear hAe h3
  generalize w3.alloc (.cells #[.int .i64 7, .int .u32 10, .bool false, .int .u64 8, .int .u64 12, .int .u64 16] 50) = w4 at hA hA4 hAM ⊢
  have h4 := hA4
  clear hA4
  refine (of_any h4 3 (by omega) (by omega)).mono ?_
  rintro e w5 ⟨rfl, h5, hM5⟩
  have hk5 := ostk_gof (s := 3) hk3
  have e53 : entOf (gof g3 3) 3 = E 3 := ent_gof (by omega) (by omega)
  have e57 : entOf (gof g3 3) 7 = E 7 := (ent_gof_ne (by omega)).trans e37
  generalize gof g3 3 = g5 at h5 hk5 e53 e57
  have hA5 := hA.mod hM5 (by simp; omega)
  clear h4 hM5 hA hk3 e37
  unfold E Ent6.val
  go_wp2_with fail
  obtain ⟨B, hBe⟩ : ∃ B, B = w5.heap.size := ⟨_, rfl⟩
  have hB := Has.new_at w5 (.cells #[.int .i64 3, .int .u32 6, .bool false, .int .u64 4, .int .u64 8, .int .u64 12] 50) B hBe
  have hBlo : B ≠ m ∧ B ≠ mb := by
    have := h5.lo
    omega
  have hBM : Mod w5 (w5.alloc (.cells #[.int .i64 3, .int .u32 6, .bool false, .int .u64 4, .int .u64 8, .int .u64 12] 50)) [] := (Mod.refl w5 []).alloc (.cells #[.int .i64 3, .int .u32 6, .bool false, .int .u64 4, .int .u64 8, .int .u64 12] 50)
  have hB4 := h5.keep0 hBM
  rw [← hBe]
  clear hBe h5
  generalize w5.alloc (.cells #[.int .i64 3, .int .u32 6, .bool false, .int .u64 4, .int .u64 8, .int .u64 12] 50) = w4 at hB hB4 hBM ⊢
  have h4 := hB4
  clear hB4
  replace hA5 := hA5.mod hBM (by simp)
  refine (of_any h4 5 (by omega) (by omega)).mono ?_
  rintro e w6 ⟨rfl, h6, hM6⟩
  have hk6 := ostk_gof (s := 5) hk5
  have e65 : entOf (gof g5 5) 5 = E 5 := ent_gof (by omega) (by omega)
  have e63 : entOf (gof g5 5) 3 = E 3 := (ent_gof_ne (by omega)).trans e53
  have e67 : entOf (gof g5 5) 7 = E 7 := (ent_gof_ne (by omega)).trans e57
  generalize gof g5 5 = g6 at h6 hk6 e65 e63 e67
  have hA7 := hA5.mod hM6 (by simp; omega)
  have hB7 := hB.mod hM6 (by simp; omega)
  clear h4 hM6 hA5 hB hk5 e53 e57 hBM
  unfold E Ent6.val
  have c_hA7_0 := hA7.cell 0; have c_hA7_1 := hA7.cell 1; have c_hA7_2 := hA7.cell 2; have c_hA7_3 := hA7.cell 3; have c_hA7_4 := hA7.cell 4; have c_hA7_5 := hA7.cell 5; simp only [getRules] at c_hA7_0 c_hA7_1 c_hA7_2 c_hA7_3 c_hA7_4 c_hA7_5
  have c_hB7_0 := hB7.cell 0; have c_hB7_1 := hB7.cell 1; have c_hB7_2 := hB7.cell 2; have c_hB7_3 := hB7.cell 3; have c_hB7_4 := hB7.cell 4; have c_hB7_5 := hB7.cell 5; simp only [getRules] at c_hB7_0 c_hB7_1 c_hB7_2 c_hB7_3 c_hB7_4 c_hB7_5
  have hAl := hA7.lt
  have hBl := hB7.lt
  go_wp2_with fail
  have hC0 := Has.new w6 (.cells #[.int .i64 5, .int .u32 8, .bool false, .int .u64 6, .int .u64 10, .int .u64 14] 50)
  have hM0 : Mod w6 (w6.alloc (.cells #[.int .i64 5, .int .u32 8, .bool false, .int .u64 6, .int .u64 10, .int .u64 14] 50)) [] := (Mod.refl _ _).alloc _
  have h7 := h6.keep0 hM0
  have hA8 := hA7.mod hM0 (by simp)
  have hB8 := hB7.mod hM0 (by simp)
  obtain ⟨C, hCe⟩ : ∃ C, C = w6.heap.size := ⟨_, rfl⟩
  have hClo : C ≠ m ∧ C ≠ mb := by
    have := h6.lo
    omega
  rw [← hCe] at hC0
  have HCE := Lib.hid hCe
  clear hCe c_hA7_0 c_hA7_1 c_hA7_2 c_hA7_3 c_hA7_4 c_hA7_5 c_hB7_0 c_hB7_1 c_hB7_2 c_hB7_3 c_hB7_4 c_hB7_5 hAl hBl h6 hA7 hB7
  try rw [show w6.heap.size + 1 = (w6.alloc (.cells #[.int .i64 5, .int .u32 8, .bool false, .int .u64 6, .int .u64 10, .int .u64 14] 50)).heap.size by simp]
  try rw [← HCE.out]
  generalize w6.alloc (.cells #[.int .i64 5, .int .u32 8, .bool false, .int .u64 6, .int .u64 10, .int .u64 14] 50) = w7 at hC0 hM0 h7 hA8 hB8 ⊢
  -- the first two are given
  have hne : A ≠ B ∧ True := ⟨fun e => by subst e; have := hA8.inj hB8; simp at this, trivial⟩
  have hS1 := src_lit (l := [E 7, E 3]) (n := 2) (Has.new w7 (.cells #[.int .i64 7, .int .u32 10, .bool false, .int .u64 8, .int .u64 12, .int .u64 16, .int .i64 3, .int .u32 6, .bool false, .int .u64 4, .int .u64 8, .int .u64 12] 50)) rfl rfl
  have hM8 : Mod w7 (w7.alloc (.cells #[.int .i64 7, .int .u32 10, .bool false, .int .u64 8, .int .u64 12, .int .u64 16, .int .i64 3, .int .u32 6, .bool false, .int .u64 4, .int .u64 8, .int .u64 12] 50)) [] := (Mod.refl _ _).alloc _
  have h8 := h7.keep0 hM8
  replace hA8 := hA8.mod hM8 (by simp)
  replace hB8 := hB8.mod hM8 (by simp)
  replace hC0 := hC0.mod hM8 (by simp)
  generalize w7.alloc (.cells #[.int .i64 7, .int .u32 10, .bool false, .int .u64 8, .int .u64 12, .int .u64 16, .int .i64 3, .int .u32 6, .bool false, .int .u64 4, .int .u64 8, .int .u64 12] 50) = w8 at hS1 h8 hA8 hB8 hC0 ⊢
  refine (given_E h8 _ [7, 3] [] hS1 (by simp) (by simp) (by simp) (by simp) hk6 (by simp)).mono ?_
  rintro e w9 ⟨rfl, g9, h9, hk9, ho9, hM9⟩
  replace hA8 := hA8.mod hM9 (by simp; omega)
  replace hB8 := hB8.mod hM9 (by simp; omega)
  replace hC0 := hC0.mod hM9 (by simp; omega)
  have e95 := (ent_others ho9 5).trans e65
  have e93 := (ent_others ho9 3).trans e63
  have e97 := (ent_others ho9 7).trans e67
  clear hM8 h8 hS1 hM0 h7 ho9 hk6 e65 e63 e67 hM9
  have c_hC0_0 := hC0.cell 0; have c_hC0_1 := hC0.cell 1; have c_hC0_2 := hC0.cell 2; have c_hC0_3 := hC0.cell 3; have c_hC0_4 := hC0.cell 4; have c_hC0_5 := hC0.cell 5; simp only [getRules] at c_hC0_0 c_hC0_1 c_hC0_2 c_hC0_3 c_hC0_4 c_hC0_5
  have hCl := hC0.lt
  go_wp2_with fail
  -- then the third one
  have hS2 := src_lit (l := [E 5]) (n := 1) (Has.new w9 (.cells #[.int .i64 5, .int .u32 8, .bool false, .int .u64 6, .int .u64 10, .int .u64 14] 50)) rfl rfl
  have hM10 : Mod w9 (w9.alloc (.cells #[.int .i64 5, .int .u32 8, .bool false, .int .u64 6, .int .u64 10, .int .u64 14] 50)) [] := (Mod.refl _ _).alloc _
  have h10 := h9.keep0 hM10
  replace hA8 := hA8.mod hM10 (by simp)
  replace hB8 := hB8.mod hM10 (by simp)
  replace hC0 := hC0.mod hM10 (by simp)
  clear c_hC0_0 c_hC0_1 c_hC0_2 c_hC0_3 c_hC0_4 c_hC0_5 hCl h9
  generalize w9.alloc (.cells #[.int .i64 5, .int .u32 8, .bool false, .int .u64 6, .int .u64 10, .int .u64 14] 50) = w10 at hS2 h10 hA8 hB8 hC0 ⊢
  refine (given_E h10 _ [5] [7, 3] hS2 (by simp) (by simp) (by simp) (by simp) hk9 (by simp)).mono ?_
  rintro e w11 ⟨rfl, g11, h11, hk11, ho11, hM11⟩
  replace hA8 := hA8.mod hM11 (by simp; omega)
  replace hB8 := hB8.mod hM11 (by simp; omega)
  replace hC0 := hC0.mod hM11 (by simp; omega)
  have e115 := (ent_others ho11 5).trans e95
  have e113 := (ent_others ho11 3).trans e93
  have e117 := (ent_others ho11 7).trans e97
  clear hM10 h10 hS2 ho11 hk9 e95 e93 e97 hM11
  go_wp2_with fail
  -- all are taken
  refine (taken_E h11 [5, 7, 3] (by simp) (by simp) hk11 (by intro s hs; simp at hs; rcases hs with rfl | rfl | rfl <;> assumption)).mono ?_
  rintro e w12 ⟨v12, rfl, hS12, hv12, hM12, g12, h12, _, _⟩
  replace hA8 := hA8.mod hM12 (by simp; omega)
  replace hB8 := hB8.mod hM12 (by simp; omega)
  replace hC0 := hC0.mod hM12 (by simp; omega)
  obtain ⟨pa12, c12, rfl, hc12⟩ := hS12.form
  clear h11 hk11 e115 e113 e117 hM12 hv12
  have c_hA8_0 := hA8.cell 0; have c_hA8_1 := hA8.cell 1; have c_hA8_2 := hA8.cell 2; have c_hA8_3 := hA8.cell 3; have c_hA8_4 := hA8.cell 4; have c_hA8_5 := hA8.cell 5; simp only [getRules] at c_hA8_0 c_hA8_1 c_hA8_2 c_hA8_3 c_hA8_4 c_hA8_5
  have c_hB8_0 := hB8.cell 0; have c_hB8_1 := hB8.cell 1; have c_hB8_2 := hB8.cell 2; have c_hB8_3 := hB8.cell 3; have c_hB8_4 := hB8.cell 4; have c_hB8_5 := hB8.cell 5; simp only [getRules] at c_hB8_0 c_hB8_1 c_hB8_2 c_hB8_3 c_hB8_4 c_hB8_5
  have c_hC0_0 := hC0.cell 0; have c_hC0_1 := hC0.cell 1; have c_hC0_2 := hC0.cell 2; have c_hC0_3 := hC0.cell 3; have c_hC0_4 := hC0.cell 4; have c_hC0_5 := hC0.cell 5; simp only [getRules] at c_hC0_0 c_hC0_1 c_hC0_2 c_hC0_3 c_hC0_4 c_hC0_5
  have hAl := hA8.lt
  have hBl := hB8.lt
  have hCl := hC0.lt
  go_wp2_with fail
  have hS3 := src_lit (l := [E 5, E 7, E 3]) (n := 3) (Has.new w12 (.cells #[.int .i64 5, .int .u32 8, .bool false, .int .u64 6, .int .u64 10, .int .u64 14, .int .i64 7, .int .u32 10, .bool false, .int .u64 8, .int .u64 12, .int .u64 16, .int .i64 3, .int .u32 6, .bool false, .int .u64 4, .int .u64 8, .int .u64 12] 50)) rfl rfl
  have hM13 : Mod w12 (w12.alloc (.cells #[.int .i64 5, .int .u32 8, .bool false, .int .u64 6, .int .u64 10, .int .u64 14, .int .i64 7, .int .u32 10, .bool false, .int .u64 8, .int .u64 12, .int .u64 16, .int .i64 3, .int .u32 6, .bool false, .int .u64 4, .int .u64 8, .int .u64 12] 50)) [] := (Mod.refl _ _).alloc _
  have h13 := h12.keep0 hM13
  replace hS12 := hS12.mod hM13 (by simp)
  refine (same_any _ _ _ [E 5, E 7, E 3] hS12 hS3 (by simp)).mono ?_
  rintro e w14 ⟨rfl, hM14⟩
  go_wp2_with fail
  go_ret
  exact ⟨rfl, (h13.keep0 hM14).mod⟩

end Go.Proofs.YtghkdkdlbkmicaaDoor.law12
