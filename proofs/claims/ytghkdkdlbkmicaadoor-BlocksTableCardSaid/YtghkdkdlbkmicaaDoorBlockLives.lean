/- Layer 11's law: its table, and its example. -/
import Derived.Test.YtghkdkdlbkmicaaDoorBlocks
import Derived.Test.YtghkdkdlbkmicaaDoorGSys
import Derived.LoopTactic
import Derived.OwnWalk
namespace Go.Proofs.YtghkdkdlbkmicaaDoor.law11
open Go.RowKit

theorem sys_moreStep {w0 w : World} {m mb b : Nat} {σ : MS} (h : Sys w0 w m mb σ) {j : BlkS} (hj : j.OkMore σ) (hb : Has w b (j.obj 177)) (lo : w0.heap.size ≤ b) (n1 : b ≠ m) (n2 : b ≠ mb) :
    Calls Tryd.prog 82 #[.pointer (some ⟨b, 0, none⟩), .pointer (some ⟨m, 0, none⟩)] w fun e w' =>
      e = .returned (.bool ((j.more σ).1.line == 0)) ∧ Sys w0 w' m mb (j.more σ).2 ∧ Has w' b ((j.more σ).1.obj 177) ∧ Mod w w' [m, mb, b] := by
  have := h.fields.lt
  refine (moreStep_any w h.fieldsAt b m mb σ j hj hb h.mem n1 n2 h.g1 (by omega)).mono ?_
  rintro e w' ⟨he, hM, hm, hb'⟩
  refine ⟨he, h.next hM ?_ hm, hb', hM⟩
  have := h.lo
  have := h.lob
  intro c hc
  simp at hc
  omega
theorem sys_lessStep {w0 w : World} {m mb b : Nat} {σ : MS} (h : Sys w0 w m mb σ) {j : BlkS} (hj : j.OkLess σ) (hb : Has w b (j.obj 178)) (lo : w0.heap.size ≤ b) (n1 : b ≠ m) (n2 : b ≠ mb) :
    Calls Tryd.prog 83 #[.pointer (some ⟨b, 0, none⟩), .pointer (some ⟨m, 0, none⟩)] w fun e w' =>
      e = .returned (.bool ((j.less σ).1.line == 0)) ∧ Sys w0 w' m mb (j.less σ).2 ∧ Has w' b ((j.less σ).1.obj 178) ∧ Mod w w' [m, mb, b] := by
  have := h.fields.lt
  refine (lessStep_any w h.fieldsAt b m mb σ j hj hb h.mem n1 n2 h.g1 (by omega)).mono ?_
  rintro e w' ⟨he, hM, hm, hb'⟩
  refine ⟨he, h.next hM ?_ hm, hb', hM⟩
  have := h.lo
  have := h.lob
  intro c hc
  simp at hc
  omega

theorem block_at (w : World) (k : Int) : Calls Tryd.prog 45 #[.int .i64 k] w fun e w' => e = .returned (K 7 k 0) ∧ Mod w w' [] := by
  go_enter Tryd.func45, Tryd.ntmps45
  go_wp2
  refine bodyPost_ret (v := K 7 k 0) ?_ rfl ⟨rfl, (Mod.refl _ _).alloc _⟩
  simp [results, Tryd.results45, go_sem, K]

set_option maxRecDepth 100000 in
theorem table_any (w0 w : World) (hf : FieldsAt w0) (hM : Mod w0 w []) (n : Nat) (hn : n ≤ 4) :
    Calls Tryd.prog 39 #[.int .i64 n] w fun e w' =>
      ∃ m mb, e = .returned (.pointer (some ⟨m, 0, none⟩)) ∧ GSys w0 w' m mb (gput (fun _ _ _ => 0) 5 0 0 n) ∧ Mod w w' [] ∧ w.heap.size ≤ m ∧ w.heap.size ≤ mb := by
  go_enter Tryd.func39, Tryd.ntmps39
  go_wp2_with fail
  refine (gsys_new hf hM).mono ?_
  rintro e w1 ⟨m, mb, rfl, h, hM1, l1, l2⟩
  go_wp2_with fail
  refine (gsys_store h 5 0 0 n (by omega) (by omega) (by decide)).mono ?_
  rintro e w3 ⟨rfl, h3, hM3⟩
  go_wp2
  go_ret
  refine ⟨m, mb, rfl, h3, hM1.call hM3 ?_, l1, l2⟩
  intro c hc
  simp at hc
  right
  omega

theorem many_any {w0 w : World} {m mb : Nat} {g : Int → Int → Int → Int} (h : GSys w0 w m mb g) (n4 : g 5 0 0 ≤ 4) :
    Calls Tryd.prog 42 #[.pointer (some ⟨m, 0, none⟩)] w fun e w' => e = .returned (.int .i64 (g 5 0 0)) ∧ GSys w0 w' m mb g ∧ Mod w w' [m] := by
  have h0 := (h.range 5 0 0).1
  go_enter Tryd.func42, Tryd.ntmps42
  go_wp2_with fail
  refine (gsys_load h 5 0 0).mono ?_
  rintro e w1 ⟨rfl, h1, hM1⟩
  generalize hg : g 5 0 0 = x at *
  have HG := Lib.hid hg
  clear hg
  have hx : x % 100 = x := by omega
  go_wp2
  go_ret
  rw [HG.out]
  exact ⟨rfl, h1, hM1⟩

/-- One More, or one Less, by one alone. -/
def moreRun (σ : MS) : Nat → BlkS × MS
  | 0 => (BlkS.new, σ)
  | n + 1 => (moreRun σ n).1.more (moreRun σ n).2
def lessRun (σ : MS) : Nat → BlkS × MS
  | 0 => (BlkS.new, σ)
  | n + 1 => (lessRun σ n).1.less (lessRun σ n).2

/-- A More by one alone is over in its N-th step. -/
structure MoreEnds (σ : MS) (N : Nat) : Prop where
  pos : 1 ≤ N
  le : N ≤ 9
  over : (moreRun σ N).1.line = 0
  on : ∀ i, 1 ≤ i → i < N → (moreRun σ i).1.line ≠ 0
  ok : ∀ i, i < N → (moreRun σ i).1.OkMore (moreRun σ i).2

set_option maxRecDepth 100000 in
set_option maxHeartbeats 2000000 in
theorem more_alone {w0 w : World} {m mb : Nat} {σ : MS} (h : Sys w0 w m mb σ) (N : Nat) (hN : MoreEnds σ N) :
    Calls Tryd.prog 78 #[.pointer (some ⟨m, 0, none⟩)] w fun e w' =>
      e = .returned (.tuple #[.int .i64 (moreRun σ N).1.e, .int .i64 N]) ∧ Sys w0 w' m mb (moreRun σ N).2 ∧ Mod w w' [m, mb] := by
  have hl1 := h.mem.lt
  have hl2 := h.mem.ltb
  have hsz := h.mod.size
  obtain ⟨b, hb⟩ : ∃ b, b = w.heap.size := ⟨_, rfl⟩
  have hbm : b ≠ m ∧ b ≠ mb ∧ w0.heap.size ≤ b ∧ w.heap.size ≤ b := by omega
  go_enter Tryd.func78, Tryd.ntmps78
  go_wp2_with fail
  refine (newMore_any w).mono ?_
  rintro e w1 ⟨rfl, rfl⟩
  rw [← hb]
  have hO := Has.new_at w (BlkS.new.obj 177) b hb
  have hM0 : Mod w (w.alloc (BlkS.new.obj 177)) [] := (Mod.refl _ _).alloc _
  have hs0 := h.keep hM0 (by simp) (by simp) (by simp)
  generalize w.alloc (BlkS.new.obj 177) = w1 at hO hM0 hs0 ⊢
  clear hb
  go_wp2_with fail
  go_loopw [5] (fun v wr => ∃ n : Nat, n < N ∧ v = .int .i64 (n + 1) ∧ Sys w0 wr m mb (moreRun σ n).2 ∧ Has wr b ((moreRun σ n).1.obj 177) ∧ Mod w wr [m, mb]) (fun v _ => 100 - (intOf v).toNat)
  case atStart => exact ⟨0, by have := hN.pos; omega, rfl, hs0, hO, hM0.wider (by simp)⟩
  case round =>
    clear hO hM0 hs0
    obtain ⟨n, hn, rfl, hs, hO, hM⟩ := hrel
    have hle := hN.le
    have hn40 : (n : Int) + 1 ≤ 9 := by omega
    have hstep := sys_moreStep hs (hN.ok n hn) hO hbm.2.2.1 hbm.1 hbm.2.1
    have HST := Lib.hid hstep
    clear hstep
    go_wp2_with fail
    refine HST.out.mono ?_
    rintro e w2 ⟨rfl, hs2, hO2, hM2⟩
    clear HST
    have hs3 : Sys w0 w2 m mb (moreRun σ (n + 1)).2 := hs2
    have hO3 : Has w2 b ((moreRun σ (n + 1)).1.obj 177) := hO2
    have hM3 : Mod w w2 [m, mb] := hM.call hM2 (by intro c hc; simp at hc; rcases hc with rfl | rfl | rfl; exact .inl (by simp); exact .inl (by simp); exact .inr hbm.2.2.2)
    have hline : ((moreRun σ n).1.more (moreRun σ n).2).1.line = (moreRun σ (n + 1)).1.line := rfl
    rw [hline]
    clear hs2 hO2 hM2 hs hO hM hline
    rcases Nat.lt_or_ge (n + 1) N with hlt | hge
    · rw [show ((moreRun σ (n + 1)).1.line == 0) = false by simpa using hN.on (n + 1) (by omega) hlt]
      have HS3 := Lib.hid hs3
      have HO3 := Lib.hid hO3
      clear hs3 hO3
      go_wp2_with fail
      exact ⟨⟨n + 1, hlt, by go_num, HS3.out, HO3.out, hM3⟩, by simp [intOf]; omega⟩
    · obtain rfl : N = n + 1 := by omega
      rw [show ((moreRun σ (n + 1)).1.line == 0) = true by simpa using hN.over]
      go_wp2_with fail
      refine (moreGot_any w2 b _ hO3).mono ?_
      rintro e w4 ⟨rfl, rfl⟩
      generalize hrr : moreRun σ (n + 1) = r at *
      have HRR := Lib.hid hrr
      clear hrr
      go_wp2_with fail
      go_ret2
      rw [HRR.out]
      exact ⟨by simp, hs3, hM3⟩

/-- A Less by one alone is over in its N-th step. -/
structure LessEnds (σ : MS) (N : Nat) : Prop where
  pos : 1 ≤ N
  le : N ≤ 9
  over : (lessRun σ N).1.line = 0
  on : ∀ i, 1 ≤ i → i < N → (lessRun σ i).1.line ≠ 0
  ok : ∀ i, i < N → (lessRun σ i).1.OkLess (lessRun σ i).2

set_option maxRecDepth 100000 in
set_option maxHeartbeats 2000000 in
theorem less_alone {w0 w : World} {m mb : Nat} {σ : MS} (h : Sys w0 w m mb σ) (N : Nat) (hN : LessEnds σ N) :
    Calls Tryd.prog 79 #[.pointer (some ⟨m, 0, none⟩)] w fun e w' =>
      e = .returned (.tuple #[.int .i64 (lessRun σ N).1.e, .int .i64 N]) ∧ Sys w0 w' m mb (lessRun σ N).2 ∧ Mod w w' [m, mb] := by
  have hl1 := h.mem.lt
  have hl2 := h.mem.ltb
  have hsz := h.mod.size
  obtain ⟨b, hb⟩ : ∃ b, b = w.heap.size := ⟨_, rfl⟩
  have hbm : b ≠ m ∧ b ≠ mb ∧ w0.heap.size ≤ b ∧ w.heap.size ≤ b := by omega
  go_enter Tryd.func79, Tryd.ntmps79
  go_wp2_with fail
  refine (newLess_any w).mono ?_
  rintro e w1 ⟨rfl, rfl⟩
  rw [← hb]
  have hO := Has.new_at w (BlkS.new.obj 178) b hb
  have hM0 : Mod w (w.alloc (BlkS.new.obj 178)) [] := (Mod.refl _ _).alloc _
  have hs0 := h.keep hM0 (by simp) (by simp) (by simp)
  generalize w.alloc (BlkS.new.obj 178) = w1 at hO hM0 hs0 ⊢
  clear hb
  go_wp2_with fail
  go_loopw [5] (fun v wr => ∃ n : Nat, n < N ∧ v = .int .i64 (n + 1) ∧ Sys w0 wr m mb (lessRun σ n).2 ∧ Has wr b ((lessRun σ n).1.obj 178) ∧ Mod w wr [m, mb]) (fun v _ => 100 - (intOf v).toNat)
  case atStart => exact ⟨0, by have := hN.pos; omega, rfl, hs0, hO, hM0.wider (by simp)⟩
  case round =>
    clear hO hM0 hs0
    obtain ⟨n, hn, rfl, hs, hO, hM⟩ := hrel
    have hle := hN.le
    have hn40 : (n : Int) + 1 ≤ 9 := by omega
    have hstep := sys_lessStep hs (hN.ok n hn) hO hbm.2.2.1 hbm.1 hbm.2.1
    have HST := Lib.hid hstep
    clear hstep
    go_wp2_with fail
    refine HST.out.mono ?_
    rintro e w2 ⟨rfl, hs2, hO2, hM2⟩
    clear HST
    have hs3 : Sys w0 w2 m mb (lessRun σ (n + 1)).2 := hs2
    have hO3 : Has w2 b ((lessRun σ (n + 1)).1.obj 178) := hO2
    have hM3 : Mod w w2 [m, mb] := hM.call hM2 (by intro c hc; simp at hc; rcases hc with rfl | rfl | rfl; exact .inl (by simp); exact .inl (by simp); exact .inr hbm.2.2.2)
    have hline : ((lessRun σ n).1.less (lessRun σ n).2).1.line = (lessRun σ (n + 1)).1.line := rfl
    rw [hline]
    clear hs2 hO2 hM2 hs hO hM hline
    rcases Nat.lt_or_ge (n + 1) N with hlt | hge
    · rw [show ((lessRun σ (n + 1)).1.line == 0) = false by simpa using hN.on (n + 1) (by omega) hlt]
      have HS3 := Lib.hid hs3
      have HO3 := Lib.hid hO3
      clear hs3 hO3
      go_wp2_with fail
      exact ⟨⟨n + 1, hlt, by go_num, HS3.out, HO3.out, hM3⟩, by simp [intOf]; omega⟩
    · obtain rfl : N = n + 1 := by omega
      rw [show ((lessRun σ (n + 1)).1.line == 0) = true by simpa using hN.over]
      go_wp2_with fail
      refine (lessGot_any w2 b _ hO3).mono ?_
      rintro e w4 ⟨rfl, rfl⟩
      generalize hrr : lessRun σ (n + 1) = r at *
      have HRR := Lib.hid hrr
      clear hrr
      go_wp2_with fail
      go_ret2
      rw [HRR.out]
      exact ⟨by simp, hs3, hM3⟩


end Go.Proofs.YtghkdkdlbkmicaaDoor.law11
