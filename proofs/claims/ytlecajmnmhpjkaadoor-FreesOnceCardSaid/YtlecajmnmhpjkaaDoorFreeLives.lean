/- Layer 7's example: what 'lives' answers. -/
import Derived.Test.YtlecajmnmhpjkaaDoorFreeSys
namespace Go.Proofs.YtlecajmnmhpjkaaDoor.law07
open Go.RowKit

def a1 := PopS.new.step MS.new
def b1 := (PushS.new 7).step a1.2
def b2 := b1.1.step b1.2
def b3 := b2.1.step b2.2
def c1 := PopS.new.step b3.2
def c2 := c1.1.step c1.2
def c3 := c2.1.step c2.2
theorem facts : (a1.1.line == 0) = true ∧ a1.1.ok = false ∧ (b1.1.line == 0) = false ∧ (b2.1.line == 0) = false ∧ (b3.1.line == 0) = true ∧
    (c1.1.line == 0) = false ∧ (c2.1.line == 0) = false ∧ (c3.1.line == 0) = true ∧ c3.1.slot = 7 ∧ c3.1.ok = true ∧ c3.2.steps = 7 := by
  refine ⟨by decide +kernel, by decide +kernel, by decide +kernel, by decide +kernel, by decide +kernel, by decide +kernel, by decide +kernel, by decide +kernel, by decide +kernel, by decide +kernel, by decide +kernel⟩

set_option maxRecDepth 100000 in
set_option maxHeartbeats 1000000 in
theorem lives_any (w0 w : World) (hf : FieldsAt w0) (h0 : Mod w0 w []) :
    Calls Tryd.prog 6 #[] w fun e w' => e = .returned (.bool true) ∧ Mod w0 w' [] := by
  have hh := Lib.hid facts
  have hw := h0.size
  go_enter Tryd.func6, Tryd.ntmps6
  go_wp2_with fail
  refine (sys_new hf h0).mono ?_
  rintro e w1 ⟨m, mb, rfl, hs, hM, g1, g2⟩
  have l1 := hs.mem.lt
  have l2 := hs.mem.ltb
  clear hM
  go_wp2_with fail
  refine (sys_newPop hs).mono ?_
  rintro e w2 ⟨rfl, hs, hp, hM⟩
  clear hM
  have k1 := hp.lt
  obtain ⟨pb, hpb⟩ : ∃ pb, pb = w1.heap.size := ⟨_, rfl⟩
  rw [← hpb] at hp k1
  have q1 : pb ≠ m ∧ pb ≠ mb ∧ w0.heap.size ≤ pb := by omega
  rw [← hpb]
  clear hpb
  go_wp2_with fail
  refine (sys_popStep hs PopS.new_ok hp q1.2.2 q1.1 q1.2.1).mono ?_
  rintro e w3 ⟨rfl, hs, hp, hM⟩
  clear hM
  rw [show ((PopS.new.step MS.new).1.line == 0) = true from hh.out.1]
  go_wp2_with fail
  refine (sys_popGot hs hp).mono ?_
  rintro e w4 ⟨rfl, hs, hM⟩
  replace hp := hp.mod hM (by first | (simp; done) | (simp; omega))
  clear hM
  rw [show (PopS.new.step MS.new).1.ok = false from hh.out.2.1]
  go_wp2_with fail
  have l4 := hs.mem.lt
  have l5 := hs.mem.ltb
  have hsz := hp.lt
  refine (sys_newPush hs (s := 7) (by decide)).mono ?_
  rintro e w5 ⟨rfl, hs, hq, hM⟩
  clear hM
  have k2 := hq.lt
  obtain ⟨qb, hqb⟩ : ∃ qb, qb = w4.heap.size := ⟨_, rfl⟩
  rw [← hqb] at hq k2 ⊢
  have q2 : qb ≠ m ∧ qb ≠ mb ∧ w0.heap.size ≤ qb := by
    have := hs.lo
    have z1 := hs.mem.lt
    have z2 := hs.mem.ltb
    have := hp.lt
    have := hsz
    omega
  clear hqb
  have okq := PushS.new_ok (s := 7) (by decide)
  have okq1 := okq.step hs.mem.range
  go_wp2_with fail
  refine (sys_pushStep hs okq hq q2.2.2 q2.1 q2.2.1).mono ?_
  rintro e w6 ⟨rfl, hs, hq, hM⟩
  clear hM
  rw [show ((PushS.step (PushS.new 7) (PopS.new.step MS.new).2).1.line == 0) = false from hh.out.2.2.1]
  have okq2 := okq1.step hs.mem.range
  go_wp2_with fail
  refine (sys_pushStep hs okq1 hq q2.2.2 q2.1 q2.2.1).mono ?_
  rintro e w7 ⟨rfl, hs, hq, hM⟩
  clear hM
  rw [show ((PushS.step (PushS.step (PushS.new 7) (PopS.new.step MS.new).2).1 (PushS.step (PushS.new 7) (PopS.new.step MS.new).2).2).1.line == 0) = false from hh.out.2.2.2.1]
  have okq3 := okq2.step hs.mem.range
  go_wp2_with fail
  refine (sys_pushStep hs okq2 hq q2.2.2 q2.1 q2.2.1).mono ?_
  rintro e w8 ⟨rfl, hs, hq, hM⟩
  clear hM
  rw [show ((PushS.step (PushS.step (PushS.step (PushS.new 7) (PopS.new.step MS.new).2).1 (PushS.step (PushS.new 7) (PopS.new.step MS.new).2).2).1 (PushS.step (PushS.step (PushS.new 7) (PopS.new.step MS.new).2).1 (PushS.step (PushS.new 7) (PopS.new.step MS.new).2).2).2).1.line == 0) = true from hh.out.2.2.2.2.1]
  have l6 := hs.mem.lt
  have l7 := hs.mem.ltb
  have hlo := hs.lo
  clear okq okq1 okq2 okq3 hq hp
  go_wp2_with fail
  refine (sys_newPop hs).mono ?_
  rintro e w9 ⟨rfl, hs, hr, hM⟩
  clear hM
  obtain ⟨rb, hrb⟩ : ∃ rb, rb = w8.heap.size := ⟨_, rfl⟩
  rw [← hrb] at hr ⊢
  have q3 : rb ≠ m ∧ rb ≠ mb ∧ w0.heap.size ≤ rb := by omega
  clear hrb
  have okr := PopS.new_ok
  have okr1 := okr.step hs.mem.range
  go_wp2_with fail
  refine (sys_popStep hs okr hr q3.2.2 q3.1 q3.2.1).mono ?_
  rintro e w10 ⟨rfl, hs, hr, hM⟩
  clear hM
  rw [show ((PopS.step PopS.new (PushS.step (PushS.step (PushS.step (PushS.new 7) (PopS.new.step MS.new).2).1 (PushS.step (PushS.new 7) (PopS.new.step MS.new).2).2).1 (PushS.step (PushS.step (PushS.new 7) (PopS.new.step MS.new).2).1 (PushS.step (PushS.new 7) (PopS.new.step MS.new).2).2).2).2).1.line == 0) = false from hh.out.2.2.2.2.2.1]
  have okr2 := okr1.step hs.mem.range
  go_wp2_with fail
  refine (sys_popStep hs okr1 hr q3.2.2 q3.1 q3.2.1).mono ?_
  rintro e w11 ⟨rfl, hs, hr, hM⟩
  clear hM
  rw [show ((PopS.step (PopS.step PopS.new (PushS.step (PushS.step (PushS.step (PushS.new 7) (PopS.new.step MS.new).2).1 (PushS.step (PushS.new 7) (PopS.new.step MS.new).2).2).1 (PushS.step (PushS.step (PushS.new 7) (PopS.new.step MS.new).2).1 (PushS.step (PushS.new 7) (PopS.new.step MS.new).2).2).2).2).1 (PopS.step PopS.new (PushS.step (PushS.step (PushS.step (PushS.new 7) (PopS.new.step MS.new).2).1 (PushS.step (PushS.new 7) (PopS.new.step MS.new).2).2).1 (PushS.step (PushS.step (PushS.new 7) (PopS.new.step MS.new).2).1 (PushS.step (PushS.new 7) (PopS.new.step MS.new).2).2).2).2).2).1.line == 0) = false from hh.out.2.2.2.2.2.2.1]
  have okr3 := okr2.step hs.mem.range
  go_wp2_with fail
  refine (sys_popStep hs okr2 hr q3.2.2 q3.1 q3.2.1).mono ?_
  rintro e w12 ⟨rfl, hs, hr, hM⟩
  clear hM
  rw [show ((PopS.step (PopS.step (PopS.step PopS.new (PushS.step (PushS.step (PushS.step (PushS.new 7) (PopS.new.step MS.new).2).1 (PushS.step (PushS.new 7) (PopS.new.step MS.new).2).2).1 (PushS.step (PushS.step (PushS.new 7) (PopS.new.step MS.new).2).1 (PushS.step (PushS.new 7) (PopS.new.step MS.new).2).2).2).2).1 (PopS.step PopS.new (PushS.step (PushS.step (PushS.step (PushS.new 7) (PopS.new.step MS.new).2).1 (PushS.step (PushS.new 7) (PopS.new.step MS.new).2).2).1 (PushS.step (PushS.step (PushS.new 7) (PopS.new.step MS.new).2).1 (PushS.step (PushS.new 7) (PopS.new.step MS.new).2).2).2).2).2).1 (PopS.step (PopS.step PopS.new (PushS.step (PushS.step (PushS.step (PushS.new 7) (PopS.new.step MS.new).2).1 (PushS.step (PushS.new 7) (PopS.new.step MS.new).2).2).1 (PushS.step (PushS.step (PushS.new 7) (PopS.new.step MS.new).2).1 (PushS.step (PushS.new 7) (PopS.new.step MS.new).2).2).2).2).1 (PopS.step PopS.new (PushS.step (PushS.step (PushS.step (PushS.new 7) (PopS.new.step MS.new).2).1 (PushS.step (PushS.new 7) (PopS.new.step MS.new).2).2).1 (PushS.step (PushS.step (PushS.new 7) (PopS.new.step MS.new).2).1 (PushS.step (PushS.new 7) (PopS.new.step MS.new).2).2).2).2).2).2).1.line == 0) = true from hh.out.2.2.2.2.2.2.2.1]
  go_wp2_with fail
  refine (sys_popGot hs hr).mono ?_
  rintro e w13 ⟨rfl, hs, hM⟩
  clear hM
  rw [show (PopS.step (PopS.step (PopS.step PopS.new (PushS.step (PushS.step (PushS.step (PushS.new 7) (PopS.new.step MS.new).2).1 (PushS.step (PushS.new 7) (PopS.new.step MS.new).2).2).1 (PushS.step (PushS.step (PushS.new 7) (PopS.new.step MS.new).2).1 (PushS.step (PushS.new 7) (PopS.new.step MS.new).2).2).2).2).1 (PopS.step PopS.new (PushS.step (PushS.step (PushS.step (PushS.new 7) (PopS.new.step MS.new).2).1 (PushS.step (PushS.new 7) (PopS.new.step MS.new).2).2).1 (PushS.step (PushS.step (PushS.new 7) (PopS.new.step MS.new).2).1 (PushS.step (PushS.new 7) (PopS.new.step MS.new).2).2).2).2).2).1 (PopS.step (PopS.step PopS.new (PushS.step (PushS.step (PushS.step (PushS.new 7) (PopS.new.step MS.new).2).1 (PushS.step (PushS.new 7) (PopS.new.step MS.new).2).2).1 (PushS.step (PushS.step (PushS.new 7) (PopS.new.step MS.new).2).1 (PushS.step (PushS.new 7) (PopS.new.step MS.new).2).2).2).2).1 (PopS.step PopS.new (PushS.step (PushS.step (PushS.step (PushS.new 7) (PopS.new.step MS.new).2).1 (PushS.step (PushS.new 7) (PopS.new.step MS.new).2).2).1 (PushS.step (PushS.step (PushS.new 7) (PopS.new.step MS.new).2).1 (PushS.step (PushS.new 7) (PopS.new.step MS.new).2).2).2).2).2).2).1.slot = 7 from hh.out.2.2.2.2.2.2.2.2.1, show (PopS.step (PopS.step (PopS.step PopS.new (PushS.step (PushS.step (PushS.step (PushS.new 7) (PopS.new.step MS.new).2).1 (PushS.step (PushS.new 7) (PopS.new.step MS.new).2).2).1 (PushS.step (PushS.step (PushS.new 7) (PopS.new.step MS.new).2).1 (PushS.step (PushS.new 7) (PopS.new.step MS.new).2).2).2).2).1 (PopS.step PopS.new (PushS.step (PushS.step (PushS.step (PushS.new 7) (PopS.new.step MS.new).2).1 (PushS.step (PushS.new 7) (PopS.new.step MS.new).2).2).1 (PushS.step (PushS.step (PushS.new 7) (PopS.new.step MS.new).2).1 (PushS.step (PushS.new 7) (PopS.new.step MS.new).2).2).2).2).2).1 (PopS.step (PopS.step PopS.new (PushS.step (PushS.step (PushS.step (PushS.new 7) (PopS.new.step MS.new).2).1 (PushS.step (PushS.new 7) (PopS.new.step MS.new).2).2).1 (PushS.step (PushS.step (PushS.new 7) (PopS.new.step MS.new).2).1 (PushS.step (PushS.new 7) (PopS.new.step MS.new).2).2).2).2).1 (PopS.step PopS.new (PushS.step (PushS.step (PushS.step (PushS.new 7) (PopS.new.step MS.new).2).1 (PushS.step (PushS.new 7) (PopS.new.step MS.new).2).2).1 (PushS.step (PushS.step (PushS.new 7) (PopS.new.step MS.new).2).1 (PushS.step (PushS.new 7) (PopS.new.step MS.new).2).2).2).2).2).2).1.ok = true from hh.out.2.2.2.2.2.2.2.2.2.1]
  go_wp2_with fail
  refine (steps_any _ m mb _ hs.mem).mono ?_
  rintro e w14 ⟨rfl, rfl⟩
  rw [show (PopS.step (PopS.step (PopS.step PopS.new (PushS.step (PushS.step (PushS.step (PushS.new 7) (PopS.new.step MS.new).2).1 (PushS.step (PushS.new 7) (PopS.new.step MS.new).2).2).1 (PushS.step (PushS.step (PushS.new 7) (PopS.new.step MS.new).2).1 (PushS.step (PushS.new 7) (PopS.new.step MS.new).2).2).2).2).1 (PopS.step PopS.new (PushS.step (PushS.step (PushS.step (PushS.new 7) (PopS.new.step MS.new).2).1 (PushS.step (PushS.new 7) (PopS.new.step MS.new).2).2).1 (PushS.step (PushS.step (PushS.new 7) (PopS.new.step MS.new).2).1 (PushS.step (PushS.new 7) (PopS.new.step MS.new).2).2).2).2).2).1 (PopS.step (PopS.step PopS.new (PushS.step (PushS.step (PushS.step (PushS.new 7) (PopS.new.step MS.new).2).1 (PushS.step (PushS.new 7) (PopS.new.step MS.new).2).2).1 (PushS.step (PushS.step (PushS.new 7) (PopS.new.step MS.new).2).1 (PushS.step (PushS.new 7) (PopS.new.step MS.new).2).2).2).2).1 (PopS.step PopS.new (PushS.step (PushS.step (PushS.step (PushS.new 7) (PopS.new.step MS.new).2).1 (PushS.step (PushS.new 7) (PopS.new.step MS.new).2).2).1 (PushS.step (PushS.step (PushS.new 7) (PopS.new.step MS.new).2).1 (PushS.step (PushS.new 7) (PopS.new.step MS.new).2).2).2).2).2).2).2.steps = 7 from hh.out.2.2.2.2.2.2.2.2.2.2]
  go_wp2
  go_ret
  exact ⟨rfl, hs.mod⟩

end Go.Proofs.YtlecajmnmhpjkaaDoor.law07
