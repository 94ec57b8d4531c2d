/- A step of the keeper, and whether the table is sound: the walks. -/
import Derived.Test.YtghkdkdlbkmicaaDoorKeeper
import Derived.Test.YtghkdkdlbkmicaaDoorBlockEx
namespace Go.Proofs.YtghkdkdlbkmicaaDoor.law11
open Go.RowKit

set_option maxRecDepth 100000 in
set_option maxHeartbeats 2000000 in
theorem sound_any {w0 w : World} {m mb : Nat} {g : Int → Int → Int → Int} (h : GSys w0 w m mb g) (n1 : 1 ≤ g 5 0 0) (n4 : g 5 0 0 ≤ 4) (ho : ∀ t, g 5 0 0 * 4 ≤ t → t < 16 → g 8 t 0 = 0) :
    Calls Tryd.prog 43 #[.pointer (some ⟨m, 0, none⟩)] w fun e w' => e = .returned (.bool true) ∧ GSys w0 w' m mb g ∧ Mod w w' [m] := by
  go_enter Tryd.func43, Tryd.ntmps43
  go_wp2_with fail
  refine (many_any h n4).mono ?_
  rintro e w1 ⟨rfl, h1, hM1⟩
  have HO := Lib.hid ho
  clear ho
  obtain ⟨n, hn⟩ : ∃ n : Nat, g 5 0 0 = n := ⟨(g 5 0 0).toNat, by omega⟩
  rw [hn] at n1 n4 ⊢
  have HN := Lib.hid hn
  clear hn
  have hd1 : decide ((n : Int) < 1) = false := by simp; omega
  have hd2 : decide ((4 : Int) < n) = false := by simp; omega
  go_wp2_with fail
  try (go_quiet (fail))
  try (go_wp2_with fail)
  go_loopw [4] (fun v wr => ∃ t : Nat, n * 4 ≤ t ∧ t ≤ 16 ∧ v = .int .i64 t ∧ GSys w0 wr m mb g ∧ Mod w wr [m]) (fun v _ => 16 - (intOf v).toNat)
  case atStart => exact ⟨n * 4, by omega, by omega, by go_num, by first | exact h1 | exact h1.keep0 ((Mod.refl _ _).drewN _), by first | exact hM1 | exact hM1.drewN _⟩
  case round =>
    clear h1 hM1
    obtain ⟨t, ht1, ht2, rfl, h1, hM1⟩ := hrel
    by_cases ht : t < 16
    · have htI : (t : Int) < 16 := by omega
      go_wp2_with fail
      refine (gsys_load h1 8 t 0).mono ?_
      rintro e w2 ⟨rfl, h2, hM2⟩
      rw [HO.out t (by rw [HN.out]; omega) (by omega)]
      clear h1
      go_wp2_with fail
      exact ⟨⟨t + 1, by omega, by omega, by go_num, h2, hM1.call hM2 (by simp)⟩, by simp [intOf]; omega⟩
    · obtain rfl : t = 16 := by omega
      go_wp2_with fail
      go_ret
      exact ⟨rfl, h1, hM1⟩

/-- How the keeper lies. -/
def KAt (w : World) (C : Nat) (bs : List Nat) (x : KOp) : Prop :=
  ∃ a b, Has w C (.cells #[a, b] 101) ∧ match x with
  | .none => bs = [] ∧ a = .pointer none ∧ b = .pointer none
  | .more k => ∃ y, bs = [y] ∧ a = .pointer (some ⟨y, 0, none⟩) ∧ b = .pointer none ∧ Has w y (k.obj 177)
  | .less k => ∃ y, bs = [y] ∧ a = .pointer none ∧ b = .pointer (some ⟨y, 0, none⟩) ∧ Has w y (k.obj 178)
theorem KAt.lt {w : World} {C : Nat} {bs : List Nat} {x : KOp} (h : KAt w C bs x) : C < w.heap.size ∧ ∀ y ∈ bs, y < w.heap.size := by
  obtain ⟨a, b, h1, h2⟩ := h
  refine ⟨h1.lt, fun y hy => ?_⟩
  cases x with
  | none =>
    rw [h2.1] at hy
    cases hy
  | more k =>
    obtain ⟨z, rfl, h3, h4, h5⟩ := h2
    simp at hy
    subst hy
    exact h5.lt
  | less k =>
    obtain ⟨z, rfl, h3, h4, h5⟩ := h2
    simp at hy
    subst hy
    exact h5.lt
theorem KAt.mod {w w' : World} {C : Nat} {bs S : List Nat} {x : KOp} (h : KAt w C bs x) (hM : Mod w w' S) (hC : C ∉ S) (hS : ∀ y ∈ bs, y ∉ S) : KAt w' C bs x := by
  obtain ⟨a, b, h1, h2⟩ := h
  refine ⟨a, b, h1.mod hM hC, ?_⟩
  cases x with
  | none => exact h2
  | more k =>
    obtain ⟨y, rfl, h3, h4, h5⟩ := h2
    exact ⟨y, rfl, h3, h4, h5.mod hM (hS y (by simp))⟩
  | less k =>
    obtain ⟨y, rfl, h3, h4, h5⟩ := h2
    exact ⟨y, rfl, h3, h4, h5.mod hM (hS y (by simp))⟩

def KOp.go (x : KOp) (σ : MS) : KOp × (Int → Int → Int → Int) :=
  match x with
  | .none => (.none, σ.g)
  | .more k => (KOp.mored (k.more σ).1, (k.more σ).2.g)
  | .less k => (KOp.lessed (k.less σ).1, (k.less σ).2.g)
def KFine (x : KOp) (σ : MS) : Prop :=
  match x with
  | .none => True
  | .more k => k.OkMore σ
  | .less k => k.OkLess σ

/-- What a keeper's step leaves. -/
def KStepped (w0 w : World) (m mb C : Nat) (bs : List Nat) (x' : KOp) (g' : Int → Int → Int → Int) (e : Ending) (w' : World) : Prop :=
  e = .returned (.tuple #[]) ∧ GSys w0 w' m mb g' ∧ ∃ bs', KAt w' C bs' x' ∧ (∀ y ∈ bs', w0.heap.size ≤ y ∧ y ∉ [m, mb] ∧ y ≠ C) ∧ (∀ y ∈ bs', y ∈ bs ∨ w.heap.size ≤ y) ∧ Mod w w' ([m, mb] ++ C :: bs)

set_option maxRecDepth 100000 in
set_option maxHeartbeats 2000000 in
theorem keep_on {w0 w : World} {m mb C : Nat} {bs : List Nat} {σ : MS} {x : KOp} (grow : Bool) (hs : Sys w0 w m mb σ) (h : KAt w C bs x) (hne : x ≠ .none) (hClo : w0.heap.size ≤ C) (hCm : C ≠ m) (hCmb : C ≠ mb)
    (hlo : ∀ y ∈ bs, w0.heap.size ≤ y ∧ y ∉ [m, mb] ∧ y ≠ C) (hfine : KFine x σ) (x' : KOp) (g' : Int → Int → Int → Int) (hx : KOp.go x σ = (x', g')) :
    Calls Tryd.prog 40 #[.pointer (some ⟨C, 0, none⟩), .pointer (some ⟨m, 0, none⟩), .bool grow] w (KStepped w0 w m mb C bs x' g') := by
  obtain ⟨a, b, hC, h2⟩ := h
  have hlt := hC.lt
  cases x with
  | none => exact absurd rfl hne
  | more k =>
    obtain ⟨y, rfl, rfl, rfl, hO⟩ := h2
    have hL0 := hlo y (by simp)
    have hL : w0.heap.size ≤ y ∧ y ≠ m ∧ y ≠ mb ∧ y ≠ C := by simpa [and_assoc] using hL0
    have hok : k.OkMore σ := hfine
    simp only [KOp.go] at hx
    have hMod : Mod w w ([m, mb] ++ C :: [y]) := Mod.refl _ _
    have hy : y ∈ [m, mb] ++ C :: [y] ∨ w.heap.size ≤ y := .inl (by simp)
    have hsub : ∀ z ∈ [y], z ∈ [y] ∨ w.heap.size ≤ z := fun z hz => .inl hz
    have c_hC_0 := hC.cell 0; have c_hC_1 := hC.cell 1; simp only [getRules] at c_hC_0 c_hC_1
    have fz := hC.frozen
    clear hfine hne hlo hL0
    have HY := Lib.hid hy
    have HX := Lib.hid hx
    clear hy hx
    go_enter Tryd.func40, Tryd.ntmps40
    go_wp2_with fail
    have hy := HY.out
    have hx := HX.out
    clear HX HY
    refine (sys_moreStep hs hok hO hL.1 hL.2.1 hL.2.2.1).mono ?_
    rintro e w2 ⟨rfl, hs2, hO2, hM2⟩
    generalize k.more σ = r at hs2 hO2 hx ⊢
    obtain ⟨k', σ'⟩ := r
    obtain ⟨rfl, rfl⟩ := Prod.mk.inj hx
    clear hx
    simp only at hs2 hO2 ⊢
    replace hC := hC.mod hM2 (by simp; exact ⟨hCm, hCmb, fun e => hL.2.2.2 e.symm⟩)
    have hMod2 := hMod.call hM2 (by intro z hz; simp at hz; rcases hz with rfl | rfl | rfl; exact .inl (by simp); exact .inl (by simp); exact hy)
    try clear c_hC_0 c_hC_1
    have c_hC_0 := hC.cell 0; have c_hC_1 := hC.cell 1; simp only [getRules] at c_hC_0 c_hC_1
    have fz := hC.frozen
    have hlt2 := hC.lt
    by_cases hz : k'.line = 0
    · have hzb : (k'.line == 0) = true := by simp [hz]
      rw [hzb]
      have HJ := Lib.hid (show KOp.mored k' = .none by simp [KOp.mored, hz])
      clear hz hzb
      go_wp2_with fail
      have hS : Mod w2 (w2.setCell ⟨C, 0, none⟩ (.pointer none)) [C] := (Mod.refl _ [C]).setCell (.inl (by simp)) _
      (first | go_end0 | refine bodyPost_ret (results_none (by kernel_rfl) _ _ _) rfl ?_)
      rw [HJ.out]
      exact ⟨rfl, ⟨σ', hs2.keep hS (by simpa using hClo) (by simpa using hCm.symm) (by simpa using hCmb.symm), rfl⟩, [], ⟨_, _, hC.set_same 0 _, rfl, rfl, rfl⟩, by simp, by simp, hMod2.call hS (by simp)⟩
    · have hzb : (k'.line == 0) = false := by simp [hz]
      rw [hzb]
      have HJ := Lib.hid (show KOp.mored k' = .more k' by simp [KOp.mored, hz])
      clear hz hzb
      go_wp2_with fail
      (first | go_end0 | refine bodyPost_ret (results_none (by kernel_rfl) _ _ _) rfl ?_)
      rw [HJ.out]
      exact ⟨rfl, ⟨σ', hs2, rfl⟩, [y], ⟨_, _, hC, y, rfl, rfl, rfl, hO2⟩, fun z hz => by simp at hz; subst hz; exact ⟨hL.1, by simp; exact ⟨hL.2.1, hL.2.2.1⟩, hL.2.2.2⟩, hsub, hMod2⟩
  | less k =>
    obtain ⟨y, rfl, rfl, rfl, hO⟩ := h2
    have hL0 := hlo y (by simp)
    have hL : w0.heap.size ≤ y ∧ y ≠ m ∧ y ≠ mb ∧ y ≠ C := by simpa [and_assoc] using hL0
    have hok : k.OkLess σ := hfine
    simp only [KOp.go] at hx
    have hMod : Mod w w ([m, mb] ++ C :: [y]) := Mod.refl _ _
    have hy : y ∈ [m, mb] ++ C :: [y] ∨ w.heap.size ≤ y := .inl (by simp)
    have hsub : ∀ z ∈ [y], z ∈ [y] ∨ w.heap.size ≤ z := fun z hz => .inl hz
    have c_hC_0 := hC.cell 0; have c_hC_1 := hC.cell 1; simp only [getRules] at c_hC_0 c_hC_1
    have fz := hC.frozen
    clear hfine hne hlo hL0
    have HY := Lib.hid hy
    have HX := Lib.hid hx
    clear hy hx
    go_enter Tryd.func40, Tryd.ntmps40
    go_wp2_with fail
    have hy := HY.out
    have hx := HX.out
    clear HX HY
    refine (sys_lessStep hs hok hO hL.1 hL.2.1 hL.2.2.1).mono ?_
    rintro e w2 ⟨rfl, hs2, hO2, hM2⟩
    generalize k.less σ = r at hs2 hO2 hx ⊢
    obtain ⟨k', σ'⟩ := r
    obtain ⟨rfl, rfl⟩ := Prod.mk.inj hx
    clear hx
    simp only at hs2 hO2 ⊢
    replace hC := hC.mod hM2 (by simp; exact ⟨hCm, hCmb, fun e => hL.2.2.2 e.symm⟩)
    have hMod2 := hMod.call hM2 (by intro z hz; simp at hz; rcases hz with rfl | rfl | rfl; exact .inl (by simp); exact .inl (by simp); exact hy)
    try clear c_hC_0 c_hC_1
    have c_hC_0 := hC.cell 0; have c_hC_1 := hC.cell 1; simp only [getRules] at c_hC_0 c_hC_1
    have fz := hC.frozen
    have hlt2 := hC.lt
    by_cases hz : k'.line = 0
    · have hzb : (k'.line == 0) = true := by simp [hz]
      rw [hzb]
      have HJ := Lib.hid (show KOp.lessed k' = .none by simp [KOp.lessed, hz])
      clear hz hzb
      go_wp2_with fail
      have hS : Mod w2 (w2.setCell ⟨C, 1, none⟩ (.pointer none)) [C] := (Mod.refl _ [C]).setCell (.inl (by simp)) _
      (first | go_end0 | refine bodyPost_ret (results_none (by kernel_rfl) _ _ _) rfl ?_)
      rw [HJ.out]
      exact ⟨rfl, ⟨σ', hs2.keep hS (by simpa using hClo) (by simpa using hCm.symm) (by simpa using hCmb.symm), rfl⟩, [], ⟨_, _, hC.set_same 1 _, rfl, rfl, rfl⟩, by simp, by simp, hMod2.call hS (by simp)⟩
    · have hzb : (k'.line == 0) = false := by simp [hz]
      rw [hzb]
      have HJ := Lib.hid (show KOp.lessed k' = .less k' by simp [KOp.lessed, hz])
      clear hz hzb
      go_wp2_with fail
      (first | go_end0 | refine bodyPost_ret (results_none (by kernel_rfl) _ _ _) rfl ?_)
      rw [HJ.out]
      exact ⟨rfl, ⟨σ', hs2, rfl⟩, [y], ⟨_, _, hC, y, rfl, rfl, rfl, hO2⟩, fun z hz => by simp at hz; subst hz; exact ⟨hL.1, by simp; exact ⟨hL.2.1, hL.2.2.1⟩, hL.2.2.2⟩, hsub, hMod2⟩

set_option maxRecDepth 100000 in
set_option maxHeartbeats 2000000 in
theorem keep_none {w0 w : World} {m mb C : Nat} {bs : List Nat} {σ : MS} (grow : Bool) (hs : Sys w0 w m mb σ) (h : KAt w C bs .none) (hClo : w0.heap.size ≤ C) (hCm : C ≠ m) (hCmb : C ≠ mb)
    (hfine : KFine (KOp.begun .none grow) σ) (x' : KOp) (g' : Int → Int → Int → Int) (hx : KOp.go (KOp.begun .none grow) σ = (x', g')) :
    Calls Tryd.prog 40 #[.pointer (some ⟨C, 0, none⟩), .pointer (some ⟨m, 0, none⟩), .bool grow] w (KStepped w0 w m mb C bs x' g') := by
  obtain ⟨a, b, hC, rfl, rfl, rfl⟩ := h
  have hlt := hC.lt
  have h1 := hs.mod.size
  have h2 := hs.mem.lt
  have h3 := hs.mem.ltb
  obtain ⟨y, hy⟩ : ∃ y, y = w.heap.size := ⟨_, rfl⟩
  have hL : w0.heap.size ≤ y ∧ y ≠ m ∧ y ≠ mb ∧ y ≠ C := by omega
  have hsub : ∀ z ∈ [y], z ∈ ([] : List Nat) ∨ w.heap.size ≤ z := fun z hz => by
    simp at hz
    exact .inr (by omega)
  have c_hC_0 := hC.cell 0; have c_hC_1 := hC.cell 1; simp only [getRules] at c_hC_0 c_hC_1
  have fz := hC.frozen
  cases grow
  · simp only [KOp.begun, Bool.false_eq_true, if_false, KOp.go] at hx
    have hok : BlkS.new.OkLess σ := hfine
    have HX := Lib.hid hx
    have HOK := Lib.hid hok
    have HY := Lib.hid hy
    clear hx hfine hok hy
    go_enter Tryd.func40, Tryd.ntmps40
    go_wp2_with fail
    refine (newLess_any w).mono ?_
    rintro e w1 ⟨rfl, rfl⟩
    rw [← HY.out]
    have hO := Has.new_at w (BlkS.new.obj 178) y HY.out
    have hM1 : Mod w (w.alloc (BlkS.new.obj 178)) [] := (Mod.refl _ _).alloc _
    generalize w.alloc (BlkS.new.obj 178) = w1 at hO hM1 ⊢
    replace hC := hC.mod hM1 (by simp)
    clear c_hC_0 c_hC_1 fz
    have c_hC_0 := hC.cell 0; have c_hC_1 := hC.cell 1; simp only [getRules] at c_hC_0 c_hC_1
    have fz := hC.frozen
    have hlt1 := hC.lt
    go_wp2_with fail
    have hS : Mod w1 (w1.setCell ⟨C, 1, none⟩ (.pointer (some ⟨y, 0, none⟩))) [C] := (Mod.refl _ [C]).setCell (.inl (by simp)) _
    replace hs := (hs.keep hM1 (by simp) (by simp) (by simp)).keep hS (by simpa using hClo) (by simpa using hCm.symm) (by simpa using hCmb.symm)
    replace hO := hO.mod hS (by simpa using hL.2.2.2)
    replace hC := hC.set_same 1 (.pointer (some ⟨y, 0, none⟩))
    have hMod : Mod w (w1.setCell ⟨C, 1, none⟩ (.pointer (some ⟨y, 0, none⟩))) ([m, mb] ++ C :: []) := (hM1.wider (by simp)).call hS (by simp)
    simp only [List.setIfInBounds_toArray, List.set_cons_succ, List.set_cons_zero] at hC
    generalize w1.setCell ⟨C, 1, none⟩ (.pointer (some ⟨y, 0, none⟩)) = w1 at hs hO hC hMod ⊢
    clear c_hC_0 c_hC_1 fz hlt1 hS hM1
    have hy : y ∈ [m, mb] ++ C :: [] ∨ w.heap.size ≤ y := .inr (by rw [HY.out]; exact Nat.le_refl _)
    have hok := HOK.out
    have hx := HX.out
    clear HX HOK HY
    generalize BlkS.new = k at hok hx hO
    refine (sys_lessStep hs hok hO hL.1 hL.2.1 hL.2.2.1).mono ?_
    rintro e w2 ⟨rfl, hs2, hO2, hM2⟩
    generalize k.less σ = r at hs2 hO2 hx ⊢
    obtain ⟨k', σ'⟩ := r
    obtain ⟨rfl, rfl⟩ := Prod.mk.inj hx
    clear hx
    simp only at hs2 hO2 ⊢
    replace hC := hC.mod hM2 (by simp; exact ⟨hCm, hCmb, fun e => hL.2.2.2 e.symm⟩)
    have hMod2 := hMod.call hM2 (by intro z hz; simp at hz; rcases hz with rfl | rfl | rfl; exact .inl (by simp); exact .inl (by simp); exact hy)
    try clear c_hC_0 c_hC_1
    have c_hC_0 := hC.cell 0; have c_hC_1 := hC.cell 1; simp only [getRules] at c_hC_0 c_hC_1
    have fz := hC.frozen
    have hlt2 := hC.lt
    by_cases hz : k'.line = 0
    · have hzb : (k'.line == 0) = true := by simp [hz]
      rw [hzb]
      have HJ := Lib.hid (show KOp.lessed k' = .none by simp [KOp.lessed, hz])
      clear hz hzb
      go_wp2_with fail
      have hS : Mod w2 (w2.setCell ⟨C, 1, none⟩ (.pointer none)) [C] := (Mod.refl _ [C]).setCell (.inl (by simp)) _
      (first | go_end0 | refine bodyPost_ret (results_none (by kernel_rfl) _ _ _) rfl ?_)
      rw [HJ.out]
      exact ⟨rfl, ⟨σ', hs2.keep hS (by simpa using hClo) (by simpa using hCm.symm) (by simpa using hCmb.symm), rfl⟩, [], ⟨_, _, hC.set_same 1 _, rfl, rfl, rfl⟩, by simp, by simp, hMod2.call hS (by simp)⟩
    · have hzb : (k'.line == 0) = false := by simp [hz]
      rw [hzb]
      have HJ := Lib.hid (show KOp.lessed k' = .less k' by simp [KOp.lessed, hz])
      clear hz hzb
      go_wp2_with fail
      (first | go_end0 | refine bodyPost_ret (results_none (by kernel_rfl) _ _ _) rfl ?_)
      rw [HJ.out]
      exact ⟨rfl, ⟨σ', hs2, rfl⟩, [y], ⟨_, _, hC, y, rfl, rfl, rfl, hO2⟩, fun z hz => by simp at hz; subst hz; exact ⟨hL.1, by simp; exact ⟨hL.2.1, hL.2.2.1⟩, hL.2.2.2⟩, hsub, hMod2⟩
  · simp only [KOp.begun, if_true, KOp.go] at hx
    have hok : BlkS.new.OkMore σ := hfine
    have HX := Lib.hid hx
    have HOK := Lib.hid hok
    have HY := Lib.hid hy
    clear hx hfine hok hy
    go_enter Tryd.func40, Tryd.ntmps40
    go_wp2_with fail
    refine (newMore_any w).mono ?_
    rintro e w1 ⟨rfl, rfl⟩
    rw [← HY.out]
    have hO := Has.new_at w (BlkS.new.obj 177) y HY.out
    have hM1 : Mod w (w.alloc (BlkS.new.obj 177)) [] := (Mod.refl _ _).alloc _
    generalize w.alloc (BlkS.new.obj 177) = w1 at hO hM1 ⊢
    replace hC := hC.mod hM1 (by simp)
    clear c_hC_0 c_hC_1 fz
    have c_hC_0 := hC.cell 0; have c_hC_1 := hC.cell 1; simp only [getRules] at c_hC_0 c_hC_1
    have fz := hC.frozen
    have hlt1 := hC.lt
    go_wp2_with fail
    have hS : Mod w1 (w1.setCell ⟨C, 0, none⟩ (.pointer (some ⟨y, 0, none⟩))) [C] := (Mod.refl _ [C]).setCell (.inl (by simp)) _
    replace hs := (hs.keep hM1 (by simp) (by simp) (by simp)).keep hS (by simpa using hClo) (by simpa using hCm.symm) (by simpa using hCmb.symm)
    replace hO := hO.mod hS (by simpa using hL.2.2.2)
    replace hC := hC.set_same 0 (.pointer (some ⟨y, 0, none⟩))
    have hMod : Mod w (w1.setCell ⟨C, 0, none⟩ (.pointer (some ⟨y, 0, none⟩))) ([m, mb] ++ C :: []) := (hM1.wider (by simp)).call hS (by simp)
    simp only [List.setIfInBounds_toArray, List.set_cons_zero] at hC
    generalize w1.setCell ⟨C, 0, none⟩ (.pointer (some ⟨y, 0, none⟩)) = w1 at hs hO hC hMod ⊢
    clear c_hC_0 c_hC_1 fz hlt1 hS hM1
    have hy : y ∈ [m, mb] ++ C :: [] ∨ w.heap.size ≤ y := .inr (by rw [HY.out]; exact Nat.le_refl _)
    have hok := HOK.out
    have hx := HX.out
    clear HX HOK HY
    generalize BlkS.new = k at hok hx hO
    refine (sys_moreStep hs hok hO hL.1 hL.2.1 hL.2.2.1).mono ?_
    rintro e w2 ⟨rfl, hs2, hO2, hM2⟩
    generalize k.more σ = r at hs2 hO2 hx ⊢
    obtain ⟨k', σ'⟩ := r
    obtain ⟨rfl, rfl⟩ := Prod.mk.inj hx
    clear hx
    simp only at hs2 hO2 ⊢
    replace hC := hC.mod hM2 (by simp; exact ⟨hCm, hCmb, fun e => hL.2.2.2 e.symm⟩)
    have hMod2 := hMod.call hM2 (by intro z hz; simp at hz; rcases hz with rfl | rfl | rfl; exact .inl (by simp); exact .inl (by simp); exact hy)
    try clear c_hC_0 c_hC_1
    have c_hC_0 := hC.cell 0; have c_hC_1 := hC.cell 1; simp only [getRules] at c_hC_0 c_hC_1
    have fz := hC.frozen
    have hlt2 := hC.lt
    by_cases hz : k'.line = 0
    · have hzb : (k'.line == 0) = true := by simp [hz]
      rw [hzb]
      have HJ := Lib.hid (show KOp.mored k' = .none by simp [KOp.mored, hz])
      clear hz hzb
      go_wp2_with fail
      have hS : Mod w2 (w2.setCell ⟨C, 0, none⟩ (.pointer none)) [C] := (Mod.refl _ [C]).setCell (.inl (by simp)) _
      (first | go_end0 | refine bodyPost_ret (results_none (by kernel_rfl) _ _ _) rfl ?_)
      rw [HJ.out]
      exact ⟨rfl, ⟨σ', hs2.keep hS (by simpa using hClo) (by simpa using hCm.symm) (by simpa using hCmb.symm), rfl⟩, [], ⟨_, _, hC.set_same 0 _, rfl, rfl, rfl⟩, by simp, by simp, hMod2.call hS (by simp)⟩
    · have hzb : (k'.line == 0) = false := by simp [hz]
      rw [hzb]
      have HJ := Lib.hid (show KOp.mored k' = .more k' by simp [KOp.mored, hz])
      clear hz hzb
      go_wp2_with fail
      (first | go_end0 | refine bodyPost_ret (results_none (by kernel_rfl) _ _ _) rfl ?_)
      rw [HJ.out]
      exact ⟨rfl, ⟨σ', hs2, rfl⟩, [y], ⟨_, _, hC, y, rfl, rfl, rfl, hO2⟩, fun z hz => by simp at hz; subst hz; exact ⟨hL.1, by simp; exact ⟨hL.2.1, hL.2.2.1⟩, hL.2.2.2⟩, hsub, hMod2⟩

end Go.Proofs.YtghkdkdlbkmicaaDoor.law11
