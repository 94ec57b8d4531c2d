/- One alone joins, and leaves: the law's own loops. -/
import Derived.Test.YtghkdkdlbkmicaaDoorJoins
import Derived.Test.YtghkdkdlbkmicaaDoorLeaveSteps
import Derived.Test.YtghkdkdlbkmicaaDoorSys
import Derived.LoopTactic
import Derived.OwnWalk
namespace Go.Proofs.YtghkdkdlbkmicaaDoor
open Go.RowKit

def joinRun (o : Int) (σ : MS) : Nat → JoinS × MS
  | 0 => (JoinS.new o, σ)
  | n + 1 => (joinRun o σ n).1.step (joinRun o σ n).2
def leaveRun (t : Int) (σ : MS) : Nat → LeaveS × MS
  | 0 => (LeaveS.new t, σ)
  | n + 1 => (leaveRun t σ n).1.step (leaveRun t σ n).2

theorem sys_joinStep {w0 w : World} {m mb b : Nat} {σ : MS} (h : Sys w0 w m mb σ) {j : JoinS} (hj : j.Ok σ) (hb : Has w b j.obj) (lo : w0.heap.size ≤ b) (n1 : b ≠ m) (n2 : b ≠ mb) :
    Calls Tryd.prog 52 #[.pointer (some ⟨b, 0, none⟩), .pointer (some ⟨m, 0, none⟩)] w fun e w' =>
      e = .returned (.bool ((j.step σ).1.line == 0)) ∧ Sys w0 w' m mb (j.step σ).2 ∧ Has w' b (j.step σ).1.obj ∧ Mod w w' [m, mb, b] := by
  have := h.fields.lt
  refine (joinStep_any w h.fieldsAt b m mb σ j hj hb h.mem n1 n2 h.g1 (by omega)).mono ?_
  rintro e w' ⟨he, hM, hm, hb'⟩
  refine ⟨he, h.next hM ?_ hm, hb', hM⟩
  have := h.lo
  have := h.lob
  intro c hc
  simp at hc
  omega
theorem sys_leaveStep {w0 w : World} {m mb b : Nat} {σ : MS} (h : Sys w0 w m mb σ) {j : LeaveS} (hj : j.Ok) (hb : Has w b j.obj) (lo : w0.heap.size ≤ b) (n1 : b ≠ m) (n2 : b ≠ mb) :
    Calls Tryd.prog 55 #[.pointer (some ⟨b, 0, none⟩), .pointer (some ⟨m, 0, none⟩)] w fun e w' =>
      e = .returned (.bool ((j.step σ).1.line == 0)) ∧ Sys w0 w' m mb (j.step σ).2 ∧ Has w' b (j.step σ).1.obj ∧ Mod w w' [m, mb, b] := by
  have := h.fields.lt
  refine (leaveStep_any w h.fieldsAt b m mb σ j hj hb h.mem n1 n2 h.g1 (by omega)).mono ?_
  rintro e w' ⟨he, hM, hm, hb'⟩
  refine ⟨he, h.next hM ?_ hm, hb', hM⟩
  have := h.lo
  have := h.lob
  intro c hc
  simp at hc
  omega

/-- A Join by one alone is over in its N-th step. -/
structure JoinEnds (o : Int) (σ : MS) (N : Nat) : Prop where
  pos : 1 ≤ N
  le : N ≤ 40
  over : (joinRun o σ N).1.line = 0
  on : ∀ i, 1 ≤ i → i < N → (joinRun o σ i).1.line ≠ 0
  ok : ∀ i, i < N → (joinRun o σ i).1.Ok (joinRun o σ i).2
  owner : (joinRun o σ N).1.owner ≠ 0

set_option maxRecDepth 100000 in
set_option maxHeartbeats 2000000 in
theorem joined_any {w0 w : World} {m mb : Nat} {σ : MS} (h : Sys w0 w m mb σ) (o : Int) (o0 : 0 ≤ o) (o1 : o < 1000000) (N : Nat) (hN : JoinEnds o σ N) :
    Calls Tryd.prog 16 #[.pointer (some ⟨m, 0, none⟩), .int .i64 o] w fun e w' =>
      e = .returned (.tuple #[.int .i64 (joinRun o σ N).1.got, .int .i64 (joinRun o σ N).1.e, .int .i64 N]) ∧ Sys w0 w' m mb (joinRun o σ N).2 ∧ Mod w w' [m, mb] := by
  have hl1 := h.mem.lt
  have hl2 := h.mem.ltb
  have hsz := h.mod.size
  obtain ⟨b, hb⟩ : ∃ b, b = w.heap.size := ⟨_, rfl⟩
  have hbm : b ≠ m ∧ b ≠ mb ∧ w0.heap.size ≤ b ∧ w.heap.size ≤ b := by omega
  go_enter Tryd.func16, Tryd.ntmps16
  go_wp2_with fail
  refine (newJoin_any w o o0 o1).mono ?_
  rintro e w1 ⟨rfl, rfl⟩
  rw [← hb]
  have hO := Has.new_at w (JoinS.new o).obj b hb
  have hM0 : Mod w (w.alloc (JoinS.new o).obj) [] := (Mod.refl _ _).alloc _
  have hs0 := h.keep hM0 (by simp) (by simp) (by simp)
  generalize w.alloc (JoinS.new o).obj = w1 at hO hM0 hs0 ⊢
  clear hb
  go_wp2_with fail
  go_loopw [8] (fun v wr => ∃ n : Nat, n < N ∧ v = .int .i64 (n + 1) ∧ Sys w0 wr m mb (joinRun o σ n).2 ∧ Has wr b (joinRun o σ n).1.obj ∧ Mod w wr [m, mb]) (fun v _ => 100 - (intOf v).toNat)
  case atStart => exact ⟨0, by have := hN.pos; omega, rfl, hs0, hO, hM0.wider (by simp)⟩
  case round =>
    clear hO hM0 hs0
    obtain ⟨n, hn, rfl, hs, hO, hM⟩ := hrel
    have hle := hN.le
    have hn40 : (n : Int) + 1 ≤ 40 := by omega
    have hstep := sys_joinStep hs (hN.ok n hn) hO hbm.2.2.1 hbm.1 hbm.2.1
    have HST := Lib.hid hstep
    clear hstep
    go_wp2_with fail
    refine HST.out.mono ?_
    rintro e w2 ⟨rfl, hs2, hO2, hM2⟩
    clear HST
    have hs3 : Sys w0 w2 m mb (joinRun o σ (n + 1)).2 := hs2
    have hO3 : Has w2 b (joinRun o σ (n + 1)).1.obj := hO2
    have hM3 : Mod w w2 [m, mb] := hM.call hM2 (by intro c hc; simp at hc; rcases hc with rfl | rfl | rfl; exact .inl (by simp); exact .inl (by simp); exact .inr hbm.2.2.2)
    have hline : ((joinRun o σ n).1.step (joinRun o σ n).2).1.line = (joinRun o σ (n + 1)).1.line := rfl
    rw [hline]
    clear hs2 hO2 hM2 hs hO hM hline
    rcases Nat.lt_or_ge (n + 1) N with hlt | hge
    · rw [show ((joinRun o σ (n + 1)).1.line == 0) = false by simpa using hN.on (n + 1) (by omega) hlt]
      have HS3 := Lib.hid hs3
      have HO3 := Lib.hid hO3
      clear hs3 hO3
      go_wp2_with fail
      exact ⟨⟨n + 1, hlt, by go_num, HS3.out, HO3.out, hM3⟩, by simp [intOf]; omega⟩
    · obtain rfl : N = n + 1 := by omega
      rw [show ((joinRun o σ (n + 1)).1.line == 0) = true by simpa using hN.over]
      go_wp2_with fail
      refine (joinGot_any w2 b _ hN.over hN.owner hO3).mono ?_
      rintro e w4 ⟨rfl, hM4⟩
      have hs4 := hs3.keep hM4 (by simp) (by simp) (by simp)
      have hM5 := hM3.call hM4 (by simp)
      generalize hrr : joinRun o σ (n + 1) = r at *
      have HRR := Lib.hid hrr
      clear hrr
      go_wp2_with fail
      go_ret3
      rw [HRR.out]
      exact ⟨by simp, hs4, hM5⟩

/-- A Leave by one alone is over in its N-th step. -/
structure LeaveEnds (o : Int) (σ : MS) (N : Nat) : Prop where
  pos : 1 ≤ N
  le : N ≤ 40
  over : (leaveRun o σ N).1.line = 0
  on : ∀ i, 1 ≤ i → i < N → (leaveRun o σ i).1.line ≠ 0
  ok : ∀ i, i < N → (leaveRun o σ i).1.Ok

set_option maxRecDepth 100000 in
set_option maxHeartbeats 2000000 in
theorem left_any {w0 w : World} {m mb : Nat} {σ : MS} (h : Sys w0 w m mb σ) (o : Int) (o0 : 0 ≤ o) (o1 : o < 16) (N : Nat) (hN : LeaveEnds o σ N) :
    Calls Tryd.prog 17 #[.pointer (some ⟨m, 0, none⟩), .int .i64 o] w fun e w' =>
      e = .returned (.tuple #[.int .i64 (leaveRun o σ N).1.e, .int .i64 N]) ∧ Sys w0 w' m mb (leaveRun o σ N).2 ∧ Mod w w' [m, mb] := by
  have hl1 := h.mem.lt
  have hl2 := h.mem.ltb
  have hsz := h.mod.size
  obtain ⟨b, hb⟩ : ∃ b, b = w.heap.size := ⟨_, rfl⟩
  have hbm : b ≠ m ∧ b ≠ mb ∧ w0.heap.size ≤ b ∧ w.heap.size ≤ b := by omega
  go_enter Tryd.func17, Tryd.ntmps17
  go_wp2_with fail
  refine (newLeave_any w o o0 o1).mono ?_
  rintro e w1 ⟨rfl, hM0, hO⟩
  rw [← hb] at hO ⊢
  have hs0 := h.keep hM0 (by simp) (by simp) (by simp)
  clear hb
  go_wp2_with fail
  go_loopw [7] (fun v wr => ∃ n : Nat, n < N ∧ v = .int .i64 (n + 1) ∧ Sys w0 wr m mb (leaveRun o σ n).2 ∧ Has wr b (leaveRun o σ n).1.obj ∧ Mod w wr [m, mb]) (fun v _ => 100 - (intOf v).toNat)
  case atStart => exact ⟨0, by have := hN.pos; omega, rfl, hs0, hO, hM0.wider (by simp)⟩
  case round =>
    clear hO hM0 hs0
    obtain ⟨n, hn, rfl, hs, hO, hM⟩ := hrel
    have hle := hN.le
    have hn40 : (n : Int) + 1 ≤ 40 := by omega
    have hstep := sys_leaveStep hs (hN.ok n hn) hO hbm.2.2.1 hbm.1 hbm.2.1
    have HST := Lib.hid hstep
    clear hstep
    go_wp2_with fail
    refine HST.out.mono ?_
    rintro e w2 ⟨rfl, hs2, hO2, hM2⟩
    clear HST
    have hs3 : Sys w0 w2 m mb (leaveRun o σ (n + 1)).2 := hs2
    have hO3 : Has w2 b (leaveRun o σ (n + 1)).1.obj := hO2
    have hM3 : Mod w w2 [m, mb] := hM.call hM2 (by intro c hc; simp at hc; rcases hc with rfl | rfl | rfl; exact .inl (by simp); exact .inl (by simp); exact .inr hbm.2.2.2)
    have hline : ((leaveRun o σ n).1.step (leaveRun o σ n).2).1.line = (leaveRun o σ (n + 1)).1.line := rfl
    rw [hline]
    clear hs2 hO2 hM2 hs hO hM hline
    rcases Nat.lt_or_ge (n + 1) N with hlt | hge
    · rw [show ((leaveRun o σ (n + 1)).1.line == 0) = false by simpa using hN.on (n + 1) (by omega) hlt]
      have HS3 := Lib.hid hs3
      have HO3 := Lib.hid hO3
      clear hs3 hO3
      go_wp2_with fail
      exact ⟨⟨n + 1, hlt, by go_num, HS3.out, HO3.out, hM3⟩, by simp [intOf]; omega⟩
    · obtain rfl : N = n + 1 := by omega
      rw [show ((leaveRun o σ (n + 1)).1.line == 0) = true by simpa using hN.over]
      go_wp2_with fail
      refine (leaveGot_any w2 b _ hO3).mono ?_
      rintro e w4 ⟨rfl, rfl⟩
      generalize hrr : leaveRun o σ (n + 1) = r at *
      have HRR := Lib.hid hrr
      clear hrr
      go_wp2_with fail
      go_ret2
      rw [HRR.out]
      exact ⟨by simp, hs3, hM3⟩

end Go.Proofs.YtghkdkdlbkmicaaDoor
