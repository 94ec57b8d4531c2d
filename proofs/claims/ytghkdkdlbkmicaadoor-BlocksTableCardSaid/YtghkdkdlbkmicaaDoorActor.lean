/- A step of an actor that joins and leaves: the walk. -/
import Derived.Test.YtghkdkdlbkmicaaDoorKeeper
import Derived.Test.YtghkdkdlbkmicaaDoorBlockEx
import Derived.Test.YtghkdkdlbkmicaaDoorTableSys
import Derived.Test.YtghkdkdlbkmicaaDoorRing3
namespace Go.Proofs.YtghkdkdlbkmicaaDoor.law11
open Go.RowKit

/-- How an actor lies. -/
def ActAt (w : World) (bs : List Nat) (a b c : Value) (x : Act) : Prop :=
  a = .int .i64 x.thread ∧ match x.op with
  | .none => bs = [] ∧ b = .pointer none ∧ c = .pointer none
  | .join j => ∃ y, bs = [y] ∧ b = .pointer (some ⟨y, 0, none⟩) ∧ c = .pointer none ∧ Has w y j.obj
  | .leave l => ∃ y, bs = [y] ∧ b = .pointer none ∧ c = .pointer (some ⟨y, 0, none⟩) ∧ Has w y l.obj

theorem actLain : Lain ActAt := by
  constructor
  · rintro w w' bs S a b c ⟨t, o⟩ ⟨h1, h2⟩ hM hS
    refine ⟨h1, ?_⟩
    cases o with
    | none => exact h2
    | join j =>
      obtain ⟨y, rfl, h3, h4, h5⟩ := h2
      exact ⟨y, rfl, h3, h4, h5.mod hM (hS y (by simp))⟩
    | leave l =>
      obtain ⟨y, rfl, h3, h4, h5⟩ := h2
      exact ⟨y, rfl, h3, h4, h5.mod hM (hS y (by simp))⟩
  · rintro w bs a b c ⟨t, o⟩ ⟨h1, h2⟩ y hy
    cases o with
    | none =>
      rw [h2.1] at hy
      cases hy
    | join j =>
      obtain ⟨z, rfl, h3, h4, h5⟩ := h2
      simp at hy
      subst hy
      exact h5.lt
    | leave l =>
      obtain ⟨z, rfl, h3, h4, h5⟩ := h2
      simp at hy
      subst hy
      exact h5.lt

/-- A step of what is under way: the actor, and the words. -/
def Act.go (x : Act) (σ : MS) : Act × (Int → Int → Int → Int) :=
  match x.op with
  | .none => (x, σ.g)
  | .join j => (Act.joined x.thread (j.step σ).1, (j.step σ).2.g)
  | .leave l => (Act.left x.thread (l.step σ).1, (l.step σ).2.g)
/-- What the walk asks of it. -/
def Fine (x : Act) (σ : MS) : Prop :=
  match x.op with
  | .none => True
  | .join j => j.Ok σ ∧ j.owner ≠ 0 ∧ (j.step σ).1.owner ≠ 0 ∧ (j.step σ).2.g 5 0 0 ≤ 4 ∧ ((j.step σ).1.line = 0 → (j.step σ).1.e = 0 → 0 ≤ (j.step σ).1.thread ∧ (j.step σ).1.thread < (j.step σ).2.g 5 0 0 * 4)
  | .leave l => l.Ok ∧ ((l.step σ).1.line = 0 → (l.step σ).1.e = 0)

/-- What a step of an actor leaves. -/
def Stepped (w0 w : World) (m mb B : Nat) (T : TypeId) (q : Nat) (cs : Array Value) (bs : List Nat) (x' : Act) (g' : Int → Int → Int → Int) (e : Ending) (w' : World) : Prop :=
  e = .returned (.bool true) ∧ GSys w0 w' m mb g' ∧ ∃ bs' a b c cs', Turned ActAt w w0.heap.size [m, mb] B T q cs bs x' w' bs' a b c cs'

set_option maxRecDepth 100000 in
set_option maxHeartbeats 2000000 in
theorem step_join {w0 w : World} {m mb B q : Nat} {T : TypeId} {cs : Array Value} {bs : List Nat} {t : Int} {j : JoinS} {a b c : Value} {σ : MS} (who : Int)
    (hs : Sys w0 w m mb σ) (h : Turned ActAt w w0.heap.size [m, mb] B T q cs bs ⟨t, .join j⟩ w bs a b c cs) (hBlo : w0.heap.size ≤ B) (hBm : B ≠ m) (hBmb : B ≠ mb) (hfine : Fine ⟨t, .join j⟩ σ)
    (x' : Act) (g' : Int → Int → Int → Int) (hx : Act.go ⟨t, .join j⟩ σ = (x', g')) :
    Calls Tryd.prog 41 #[.pointer (some ⟨B, q, none⟩), .pointer (some ⟨m, 0, none⟩), .int .i64 who] w
      (Stepped w0 w m mb B T q cs bs x' g') := by
  obtain ⟨rfl, y, rfl, rfl, rfl, hO⟩ := h.lies
  have hL := h.lo y (by simp)
  simp only [List.mem_cons, List.not_mem_nil, or_false, not_or] at hL
  have hB2 := h.has
  try clear c0 c1 c2 fz
  have c0 := hB2.cell q
  have c1 := hB2.cell (q + 1)
  have c2 := hB2.cell (q + 2)
  rw [h.cells.c0] at c0
  rw [h.cells.c1] at c1
  rw [h.cells.c2] at c2
  have fz := hB2.frozen
  have hlt := hB2.lt
  simp only [Act.go] at hx
  simp only [Fine] at hfine
  obtain ⟨hok, how, how2, h4, hfine⟩ := hfine
  go_enter Tryd.func41, Tryd.ntmps41
  go_wp2_with fail
  refine (sys_joinStep hs hok hO hL.1 hL.2.1.1 hL.2.1.2).mono ?_
  rintro e w2 ⟨rfl, hs2, hO2, hM2⟩
  generalize j.step σ = r at hs2 hO2 how2 h4 hfine hx ⊢
  obtain ⟨j', σ'⟩ := r
  obtain ⟨rfl, rfl⟩ := Prod.mk.inj hx
  clear hx
  simp only at hs2 hO2 how2 h4 hfine ⊢
  replace hB2 := hB2.mod hM2 (by simp; exact ⟨hBm, hBmb, fun e => hL.2.2 e.symm⟩)
  have hMod2 := h.call hM2 (by intro z hz; simp at hz; rcases hz with rfl | rfl | rfl; exact .inl (by simp); exact .inl (by simp); exact .inr (.inr (.inl (by simp))))
  try clear c0 c1 c2 fz
  have c0 := hB2.cell q
  have c1 := hB2.cell (q + 1)
  have c2 := hB2.cell (q + 2)
  rw [h.cells.c0] at c0
  rw [h.cells.c1] at c1
  rw [h.cells.c2] at c2
  have fz := hB2.frozen
  by_cases hz : j'.line = 0
  · have hzb : (j'.line == 0) = true := by simp [hz]
    rw [hzb]
    have HZ := Lib.hid hz
    have HFINE := Lib.hid (hfine hz)
    clear hz hzb hfine
    go_wp2_with fail
    refine (joinGot_any w2 y j' HZ.out how2 hO2).mono ?_
    rintro e w3 ⟨rfl, hM3⟩
    have hs3 := hs2.keep hM3 (by simp) (by simp) (by simp)
    have hB3 := hB2.mod hM3 (by simp)
    have hMod3 := hMod2.call hM3 (by simp)
    try clear c0 c1 c2 fz
    have c0 := hB3.cell q
    have c1 := hB3.cell (q + 1)
    have c2 := hB3.cell (q + 2)
    rw [h.cells.c0] at c0
    rw [h.cells.c1] at c1
    rw [h.cells.c2] at c2
    have fz := hB3.frozen
    have hlt3 := hB3.lt
    by_cases he : j'.e = 0
    · obtain ⟨f1, f2⟩ := HFINE.out he
      have hgot : j'.got = j'.thread := by simp [JoinS.got, he]
      have heb : (j'.e == 0) = true := by simp [he]
      rw [hgot]
      have HE := Lib.hid he
      generalize hjt : j'.thread = jt at *
      generalize hje : j'.e = je at *
      have HJT := Lib.hid hjt
      have HJE := Lib.hid hje
      clear hgot he hjt hje
      go_wp2_with fail
      have hS : Mod w3 ((w3.setCell ⟨B, q + 1, none⟩ (.pointer none)).setCell ⟨B, q, none⟩ (.int .i64 jt)) [B] := ((Mod.refl _ [B]).setCell (.inl (by simp)) _).setCell (.inl (by simp)) _
      refine (many_any ⟨σ', hs3.keep hS (by simpa using hBlo) (by simpa using hBm.symm) (by simpa using hBmb.symm), rfl⟩ h4).mono ?_
      rintro e w5 ⟨rfl, hs5, hM5⟩
      have hB5 := ((hB3.set_same (q + 1) (.pointer none)).set_same q (.int .i64 jt)).mod hM5 (by simpa using hBm)
      have hMod5 := (hMod3.call hS (by simp)).call hM5 (by simp)
      have hg0 := (hs5.range 5 0 0).1
      generalize hgn : σ'.g 5 0 0 = n5 at *
      have hd : decide (jt < n5 * 4) = true := by simpa using f2
      clear hgn
      go_wp2
      go_ret
      have hJ : Act.joined t j' = ⟨jt, .none⟩ := by simp [Act.joined, HZ.out, HJE.out, HE.out, HJT.out]
      rw [hJ]
      exact ⟨by simp, hs5, [], _, _, _, _, hB5, (h.cells.set1 _).set0 _, ⟨rfl, rfl, rfl, rfl⟩, by simp, by simp, hMod5⟩
    · have heb : (j'.e == 0) = false := by simpa using he
      generalize hje : j'.e = je at *
      have HJE := Lib.hid hje
      clear hje
      go_wp2_with fail
      have hS : Mod w3 (w3.setCell ⟨B, q + 1, none⟩ (.pointer none)) [B] := (Mod.refl _ [B]).setCell (.inl (by simp)) _
      go_ret
      have hJ : Act.joined t j' = ⟨t, .none⟩ := by simp [Act.joined, HZ.out, HJE.out, he]
      rw [hJ]
      exact ⟨rfl, ⟨σ', hs3.keep hS (by simpa using hBlo) (by simpa using hBm.symm) (by simpa using hBmb.symm), rfl⟩, [], _, _, _, _, hB3.set_same _ _, h.cells.set1 _, ⟨rfl, rfl, rfl, rfl⟩, by simp, by simp, hMod3.call hS (by simp)⟩
  · have hzb : (j'.line == 0) = false := by simp [hz]
    rw [hzb]
    have HJ := Lib.hid (show Act.joined t j' = ⟨t, .join j'⟩ by simp [Act.joined, hz])
    clear hz hzb
    go_wp2_with fail
    go_ret
    rw [HJ.out]
    exact ⟨rfl, ⟨σ', hs2, rfl⟩, [y], _, _, _, _, hB2, h.cells, ⟨rfl, y, rfl, rfl, rfl, hO2⟩, h.lo, h.sub, hMod2⟩

set_option maxRecDepth 100000 in
set_option maxHeartbeats 2000000 in
theorem step_leave {w0 w : World} {m mb B q : Nat} {T : TypeId} {cs : Array Value} {bs : List Nat} {t : Int} {l : LeaveS} {a b c : Value} {σ : MS} (who : Int)
    (hs : Sys w0 w m mb σ) (h : Turned ActAt w w0.heap.size [m, mb] B T q cs bs ⟨t, .leave l⟩ w bs a b c cs) (hBlo : w0.heap.size ≤ B) (hBm : B ≠ m) (hBmb : B ≠ mb) (hfine : Fine ⟨t, .leave l⟩ σ)
    (x' : Act) (g' : Int → Int → Int → Int) (hx : Act.go ⟨t, .leave l⟩ σ = (x', g')) :
    Calls Tryd.prog 41 #[.pointer (some ⟨B, q, none⟩), .pointer (some ⟨m, 0, none⟩), .int .i64 who] w
      (Stepped w0 w m mb B T q cs bs x' g') := by
  obtain ⟨rfl, y, rfl, rfl, rfl, hO⟩ := h.lies
  have hL := h.lo y (by simp)
  simp only [List.mem_cons, List.not_mem_nil, or_false, not_or] at hL
  have hB2 := h.has
  try clear c0 c1 c2 fz
  have c0 := hB2.cell q
  have c1 := hB2.cell (q + 1)
  have c2 := hB2.cell (q + 2)
  rw [h.cells.c0] at c0
  rw [h.cells.c1] at c1
  rw [h.cells.c2] at c2
  have fz := hB2.frozen
  have hlt := hB2.lt
  simp only [Act.go] at hx
  simp only [Fine] at hfine
  obtain ⟨hok, hfine⟩ := hfine
  go_enter Tryd.func41, Tryd.ntmps41
  go_wp2_with fail
  refine (sys_leaveStep hs hok hO hL.1 hL.2.1.1 hL.2.1.2).mono ?_
  rintro e w2 ⟨rfl, hs2, hO2, hM2⟩
  generalize l.step σ = r at hs2 hO2 hfine hx ⊢
  obtain ⟨l', σ'⟩ := r
  obtain ⟨rfl, rfl⟩ := Prod.mk.inj hx
  clear hx
  simp only at hs2 hO2 hfine ⊢
  replace hB2 := hB2.mod hM2 (by simp; exact ⟨hBm, hBmb, fun e => hL.2.2 e.symm⟩)
  have hMod2 := h.call hM2 (by intro z hz; simp at hz; rcases hz with rfl | rfl | rfl; exact .inl (by simp); exact .inl (by simp); exact .inr (.inr (.inl (by simp))))
  try clear c0 c1 c2 fz
  have c0 := hB2.cell q
  have c1 := hB2.cell (q + 1)
  have c2 := hB2.cell (q + 2)
  rw [h.cells.c0] at c0
  rw [h.cells.c1] at c1
  rw [h.cells.c2] at c2
  have fz := hB2.frozen
  have hlt2 := hB2.lt
  by_cases hz : l'.line = 0
  · have hzb : (l'.line == 0) = true := by simp [hz]
    rw [hzb]
    have HJ := Lib.hid (show Act.left t l' = ⟨-1, .none⟩ by simp [Act.left, hz])
    have he := hfine hz
    clear hz hzb hfine
    go_wp2_with fail
    refine (leaveGot_any w2 y l' hO2).mono ?_
    rintro e w3 ⟨rfl, rfl⟩
    rw [he]
    clear he
    go_wp2_with fail
    have hS : Mod w2 ((w2.setCell ⟨B, q + 2, none⟩ (.pointer none)).setCell ⟨B, q, none⟩ (.int .i64 (-1))) [B] := ((Mod.refl _ [B]).setCell (.inl (by simp)) _).setCell (.inl (by simp)) _
    go_ret
    rw [HJ.out]
    exact ⟨rfl, ⟨σ', hs2.keep hS (by simpa using hBlo) (by simpa using hBm.symm) (by simpa using hBmb.symm), rfl⟩, [], _, _, _, _, (hB2.set_same _ _).set_same _ _, (h.cells.set2 _).set0 _, ⟨rfl, rfl, rfl, rfl⟩, by simp, by simp, hMod2.call hS (by simp)⟩
  · have hzb : (l'.line == 0) = false := by simp [hz]
    rw [hzb]
    have HJ := Lib.hid (show Act.left t l' = ⟨t, .leave l'⟩ by simp [Act.left, hz])
    clear hz hzb
    go_wp2_with fail
    go_ret
    rw [HJ.out]
    exact ⟨rfl, ⟨σ', hs2, rfl⟩, [y], _, _, _, _, hB2, h.cells, ⟨rfl, y, rfl, rfl, rfl, hO2⟩, h.lo, h.sub, hMod2⟩

/-- A Join begins; a Leave. -/
theorem Turned.freshJoin {w0 w w1 : World} {m mb B q y : Nat} {T : TypeId} {cs : Array Value} {t : Int} {a : Value} {σ : MS} {j : JoinS} (hs : Sys w0 w m mb σ)
    (h : Turned ActAt w w0.heap.size [m, mb] B T q cs [] ⟨t, .none⟩ w [] a (.pointer none) (.pointer none) cs) (hBlo : w0.heap.size ≤ B) (hBm : B ≠ m) (hBmb : B ≠ mb) (hM1 : Mod w w1 []) (hy : y = w.heap.size) (hO : Has w1 y j.obj) :
    Turned ActAt w w0.heap.size [m, mb] B T q cs [] ⟨t, .join j⟩ (w1.setCell ⟨B, q + 1, none⟩ (.pointer (some ⟨y, 0, none⟩))) [y] a (.pointer (some ⟨y, 0, none⟩)) (.pointer none) (cs.setIfInBounds (q + 1) (.pointer (some ⟨y, 0, none⟩))) ∧ Sys w0 (w1.setCell ⟨B, q + 1, none⟩ (.pointer (some ⟨y, 0, none⟩))) m mb σ := by
  have hS : Mod w1 (w1.setCell ⟨B, q + 1, none⟩ (.pointer (some ⟨y, 0, none⟩))) [B] := (Mod.refl _ [B]).setCell (.inl (by simp)) _
  have h1 := hs.mod.size
  have h2 := hs.mem.lt
  have h3 := hs.mem.ltb
  have h4 := h.has.lt
  refine ⟨⟨(h.has.mod hM1 (by simp)).set_same _ _, h.cells.set1 _, ⟨h.lies.1, y, rfl, rfl, rfl, hO.set_other (by simp; omega) _⟩, ?_, ?_, (hM1.wider (by simp)).call hS (by simp)⟩, (hs.keep hM1 (by simp) (by simp) (by simp)).keep hS (by simpa using hBlo) (by simpa using hBm.symm) (by simpa using hBmb.symm)⟩
  · intro z hz
    simp at hz ⊢
    omega
  · intro z hz
    simp at hz
    exact .inr (by omega)
theorem Turned.freshLeave {w0 w w1 : World} {m mb B q y : Nat} {T : TypeId} {cs : Array Value} {t : Int} {a : Value} {σ : MS} {l : LeaveS} (hs : Sys w0 w m mb σ)
    (h : Turned ActAt w w0.heap.size [m, mb] B T q cs [] ⟨t, .none⟩ w [] a (.pointer none) (.pointer none) cs) (hBlo : w0.heap.size ≤ B) (hBm : B ≠ m) (hBmb : B ≠ mb) (hM1 : Mod w w1 []) (hy : y = w.heap.size) (hO : Has w1 y l.obj) :
    Turned ActAt w w0.heap.size [m, mb] B T q cs [] ⟨t, .leave l⟩ (w1.setCell ⟨B, q + 2, none⟩ (.pointer (some ⟨y, 0, none⟩))) [y] a (.pointer none) (.pointer (some ⟨y, 0, none⟩)) (cs.setIfInBounds (q + 2) (.pointer (some ⟨y, 0, none⟩))) ∧ Sys w0 (w1.setCell ⟨B, q + 2, none⟩ (.pointer (some ⟨y, 0, none⟩))) m mb σ := by
  have hS : Mod w1 (w1.setCell ⟨B, q + 2, none⟩ (.pointer (some ⟨y, 0, none⟩))) [B] := (Mod.refl _ [B]).setCell (.inl (by simp)) _
  have h1 := hs.mod.size
  have h2 := hs.mem.lt
  have h3 := hs.mem.ltb
  have h4 := h.has.lt
  refine ⟨⟨(h.has.mod hM1 (by simp)).set_same _ _, h.cells.set2 _, ⟨h.lies.1, y, rfl, rfl, rfl, hO.set_other (by simp; omega) _⟩, ?_, ?_, (hM1.wider (by simp)).call hS (by simp)⟩, (hs.keep hM1 (by simp) (by simp) (by simp)).keep hS (by simpa using hBlo) (by simpa using hBm.symm) (by simpa using hBmb.symm)⟩
  · intro z hz
    simp at hz ⊢
    omega
  · intro z hz
    simp at hz
    exact .inr (by omega)

set_option maxRecDepth 100000 in
set_option maxHeartbeats 2000000 in
theorem step_none {w0 w : World} {m mb B q : Nat} {T : TypeId} {cs : Array Value} {bs : List Nat} {t : Int} {a b c : Value} {σ : MS} (who : Int) (who0 : 0 ≤ who) (who1 : who < 1000000) (t16 : t < 16)
    (hs : Sys w0 w m mb σ) (h : Turned ActAt w w0.heap.size [m, mb] B T q cs bs ⟨t, .none⟩ w bs a b c cs) (hBlo : w0.heap.size ≤ B) (hBm : B ≠ m) (hBmb : B ≠ mb) (hfine : Fine (Act.begun ⟨t, .none⟩ who) σ)
    (x' : Act) (g' : Int → Int → Int → Int) (hx : Act.go (Act.begun ⟨t, .none⟩ who) σ = (x', g')) :
    Calls Tryd.prog 41 #[.pointer (some ⟨B, q, none⟩), .pointer (some ⟨m, 0, none⟩), .int .i64 who] w
      (Stepped w0 w m mb B T q cs bs x' g') := by
  obtain ⟨rfl, rfl, rfl, rfl⟩ := h.lies
  have hB2 := h.has
  try clear c0 c1 c2 fz
  have c0 := hB2.cell q
  have c1 := hB2.cell (q + 1)
  have c2 := hB2.cell (q + 2)
  rw [h.cells.c0] at c0
  rw [h.cells.c1] at c1
  rw [h.cells.c2] at c2
  have fz := hB2.frozen
  have hlt := hB2.lt
  obtain ⟨y, hy⟩ : ∃ y, y = w.heap.size := ⟨_, rfl⟩
  by_cases ht : t < 0
  · have hbe : Act.begun ⟨t, .none⟩ who = ⟨t, .join (JoinS.new who)⟩ := by simp [Act.begun, ht]
    rw [hbe] at hx hfine
    simp only [Act.go] at hx
    simp only [Fine] at hfine
    obtain ⟨hok, how, how2, h4, hfine⟩ := hfine
    have HH := Lib.hid (And.intro hok (And.intro how (And.intro how2 (And.intro h4 hfine))))
    have HX := Lib.hid hx
    have HY := Lib.hid hy
    clear hok how how2 h4 hfine hbe hx hy
    go_enter Tryd.func41, Tryd.ntmps41
    go_wp2_with fail
    refine (newJoin_any w who who0 who1).mono ?_
    rintro e w1 ⟨rfl, rfl⟩
    rw [← HY.out]
    have hO := Has.new_at w (JoinS.new who).obj y HY.out
    have hM1 : Mod w (w.alloc (JoinS.new who).obj) [] := (Mod.refl _ _).alloc _
    generalize w.alloc (JoinS.new who).obj = w1 at hO hM1 ⊢
    replace hB2 := hB2.mod hM1 (by simp)
    try clear c0 c1 c2 fz
    have c0 := hB2.cell q
    have c1 := hB2.cell (q + 1)
    have c2 := hB2.cell (q + 2)
    rw [h.cells.c0] at c0
    rw [h.cells.c1] at c1
    rw [h.cells.c2] at c2
    have fz := hB2.frozen
    have hlt1 := hB2.lt
    obtain ⟨h', hs'⟩ := Turned.freshJoin hs h hBlo hBm hBmb hM1 HY.out hO
    obtain ⟨hok, how, how2, h4, hfine⟩ := HH.out
    have hx := HX.out
    generalize JoinS.new who = j at hok how how2 h4 hfine hx h' hO
    clear HH HX
    have H1 := Lib.hid (And.intro hok (And.intro how (And.intro how2 (And.intro h4 hfine))))
    have HX := Lib.hid hx
    clear hok how how2 h4 hfine hx
    go_wp2_with fail
    clear h hs hO
    have h := h'
    have hs := hs'
    clear h' hs'
    obtain ⟨_, z, hyz, _, _, hO⟩ := h.lies
    cases hyz
    have hL := h.lo y (by simp)
    simp only [List.mem_cons, List.not_mem_nil, or_false, not_or] at hL
    replace hB2 := h.has
    obtain ⟨hok, how, how2, h4, hfine⟩ := H1.out
    have hx := HX.out
    clear H1 HX
    refine (sys_joinStep hs hok hO hL.1 hL.2.1.1 hL.2.1.2).mono ?_
    rintro e w2 ⟨rfl, hs2, hO2, hM2⟩
    generalize j.step σ = r at hs2 hO2 how2 h4 hfine hx ⊢
    obtain ⟨j', σ'⟩ := r
    obtain ⟨rfl, rfl⟩ := Prod.mk.inj hx
    clear hx
    simp only at hs2 hO2 how2 h4 hfine ⊢
    replace hB2 := hB2.mod hM2 (by simp; exact ⟨hBm, hBmb, fun e => hL.2.2 e.symm⟩)
    have hMod2 := h.call hM2 (by intro z hz; simp at hz; rcases hz with rfl | rfl | rfl; exact .inl (by simp); exact .inl (by simp); exact .inr (.inr (.inl (by simp))))
    try clear c0 c1 c2 fz
    have c0 := hB2.cell q
    have c1 := hB2.cell (q + 1)
    have c2 := hB2.cell (q + 2)
    rw [h.cells.c0] at c0
    rw [h.cells.c1] at c1
    rw [h.cells.c2] at c2
    have fz := hB2.frozen
    by_cases hz : j'.line = 0
    · have hzb : (j'.line == 0) = true := by simp [hz]
      rw [hzb]
      have HZ := Lib.hid hz
      have HFINE := Lib.hid (hfine hz)
      clear hz hzb hfine
      go_wp2_with fail
      refine (joinGot_any w2 y j' HZ.out how2 hO2).mono ?_
      rintro e w3 ⟨rfl, hM3⟩
      have hs3 := hs2.keep hM3 (by simp) (by simp) (by simp)
      have hB3 := hB2.mod hM3 (by simp)
      have hMod3 := hMod2.call hM3 (by simp)
      try clear c0 c1 c2 fz
      have c0 := hB3.cell q
      have c1 := hB3.cell (q + 1)
      have c2 := hB3.cell (q + 2)
      rw [h.cells.c0] at c0
      rw [h.cells.c1] at c1
      rw [h.cells.c2] at c2
      have fz := hB3.frozen
      have hlt3 := hB3.lt
      by_cases he : j'.e = 0
      · obtain ⟨f1, f2⟩ := HFINE.out he
        have hgot : j'.got = j'.thread := by simp [JoinS.got, he]
        have heb : (j'.e == 0) = true := by simp [he]
        rw [hgot]
        have HE := Lib.hid he
        generalize hjt : j'.thread = jt at *
        generalize hje : j'.e = je at *
        have HJT := Lib.hid hjt
        have HJE := Lib.hid hje
        clear hgot he hjt hje
        go_wp2_with fail
        have hS : Mod w3 ((w3.setCell ⟨B, q + 1, none⟩ (.pointer none)).setCell ⟨B, q, none⟩ (.int .i64 jt)) [B] := ((Mod.refl _ [B]).setCell (.inl (by simp)) _).setCell (.inl (by simp)) _
        refine (many_any ⟨σ', hs3.keep hS (by simpa using hBlo) (by simpa using hBm.symm) (by simpa using hBmb.symm), rfl⟩ h4).mono ?_
        rintro e w5 ⟨rfl, hs5, hM5⟩
        have hB5 := ((hB3.set_same (q + 1) (.pointer none)).set_same q (.int .i64 jt)).mod hM5 (by simpa using hBm)
        have hMod5 := (hMod3.call hS (by simp)).call hM5 (by simp)
        have hg0 := (hs5.range 5 0 0).1
        generalize hgn : σ'.g 5 0 0 = n5 at *
        have hd : decide (jt < n5 * 4) = true := by simpa using f2
        clear hgn
        go_wp2
        go_ret
        have hJ : Act.joined t j' = ⟨jt, .none⟩ := by simp [Act.joined, HZ.out, HJE.out, HE.out, HJT.out]
        rw [hJ]
        exact ⟨by simp, hs5, [], _, _, _, _, hB5, (h.cells.set1 _).set0 _, ⟨rfl, rfl, rfl, rfl⟩, by simp, by simp, hMod5⟩
      · have heb : (j'.e == 0) = false := by simpa using he
        generalize hje : j'.e = je at *
        have HJE := Lib.hid hje
        clear hje
        go_wp2_with fail
        have hS : Mod w3 (w3.setCell ⟨B, q + 1, none⟩ (.pointer none)) [B] := (Mod.refl _ [B]).setCell (.inl (by simp)) _
        go_ret
        have hJ : Act.joined t j' = ⟨t, .none⟩ := by simp [Act.joined, HZ.out, HJE.out, he]
        rw [hJ]
        exact ⟨rfl, ⟨σ', hs3.keep hS (by simpa using hBlo) (by simpa using hBm.symm) (by simpa using hBmb.symm), rfl⟩, [], _, _, _, _, hB3.set_same _ _, h.cells.set1 _, ⟨rfl, rfl, rfl, rfl⟩, by simp, by simp, hMod3.call hS (by simp)⟩
    · have hzb : (j'.line == 0) = false := by simp [hz]
      rw [hzb]
      have HJ := Lib.hid (show Act.joined t j' = ⟨t, .join j'⟩ by simp [Act.joined, hz])
      clear hz hzb
      go_wp2_with fail
      go_ret
      rw [HJ.out]
      exact ⟨rfl, ⟨σ', hs2, rfl⟩, [y], _, _, _, _, hB2, h.cells, ⟨rfl, y, rfl, rfl, rfl, hO2⟩, h.lo, h.sub, hMod2⟩
  · have hbe : Act.begun ⟨t, .none⟩ who = ⟨t, .leave (LeaveS.new t)⟩ := by simp [Act.begun, ht]
    rw [hbe] at hx hfine
    simp only [Act.go] at hx
    simp only [Fine] at hfine
    obtain ⟨hok, hfine⟩ := hfine
    have HH := Lib.hid (And.intro hok hfine)
    have HX := Lib.hid hx
    have HY := Lib.hid hy
    have ht0 : 0 ≤ t := by omega
    clear hok hfine hbe hx hy
    go_enter Tryd.func41, Tryd.ntmps41
    go_wp2_with fail
    refine (newLeave_any w t ht0 t16).mono ?_
    rintro e w1 ⟨rfl, hM1, hO⟩
    rw [← HY.out] at hO ⊢
    replace hB2 := hB2.mod hM1 (by simp)
    try clear c0 c1 c2 fz
    have c0 := hB2.cell q
    have c1 := hB2.cell (q + 1)
    have c2 := hB2.cell (q + 2)
    rw [h.cells.c0] at c0
    rw [h.cells.c1] at c1
    rw [h.cells.c2] at c2
    have fz := hB2.frozen
    have hlt1 := hB2.lt
    obtain ⟨h', hs'⟩ := Turned.freshLeave hs h hBlo hBm hBmb hM1 HY.out hO
    obtain ⟨hok, hfine⟩ := HH.out
    have hx := HX.out
    generalize LeaveS.new t = l at hok hfine hx h' hO
    clear HH HX
    have H1 := Lib.hid (And.intro hok hfine)
    have HX := Lib.hid hx
    clear hok hfine hx
    go_wp2_with fail
    clear h hs hO
    have h := h'
    have hs := hs'
    clear h' hs'
    obtain ⟨_, z, hyz, _, _, hO⟩ := h.lies
    cases hyz
    have hL := h.lo y (by simp)
    simp only [List.mem_cons, List.not_mem_nil, or_false, not_or] at hL
    replace hB2 := h.has
    obtain ⟨hok, hfine⟩ := H1.out
    have hx := HX.out
    clear H1 HX
    refine (sys_leaveStep hs hok hO hL.1 hL.2.1.1 hL.2.1.2).mono ?_
    rintro e w2 ⟨rfl, hs2, hO2, hM2⟩
    generalize l.step σ = r at hs2 hO2 hfine hx ⊢
    obtain ⟨l', σ'⟩ := r
    obtain ⟨rfl, rfl⟩ := Prod.mk.inj hx
    clear hx
    simp only at hs2 hO2 hfine ⊢
    replace hB2 := hB2.mod hM2 (by simp; exact ⟨hBm, hBmb, fun e => hL.2.2 e.symm⟩)
    have hMod2 := h.call hM2 (by intro z hz; simp at hz; rcases hz with rfl | rfl | rfl; exact .inl (by simp); exact .inl (by simp); exact .inr (.inr (.inl (by simp))))
    try clear c0 c1 c2 fz
    have c0 := hB2.cell q
    have c1 := hB2.cell (q + 1)
    have c2 := hB2.cell (q + 2)
    rw [h.cells.c0] at c0
    rw [h.cells.c1] at c1
    rw [h.cells.c2] at c2
    have fz := hB2.frozen
    have hlt2 := hB2.lt
    by_cases hz : l'.line = 0
    · have hzb : (l'.line == 0) = true := by simp [hz]
      rw [hzb]
      have HJ := Lib.hid (show Act.left t l' = ⟨-1, .none⟩ by simp [Act.left, hz])
      have he := hfine hz
      clear hz hzb hfine
      go_wp2_with fail
      refine (leaveGot_any w2 y l' hO2).mono ?_
      rintro e w3 ⟨rfl, rfl⟩
      rw [he]
      clear he
      go_wp2_with fail
      have hS : Mod w2 ((w2.setCell ⟨B, q + 2, none⟩ (.pointer none)).setCell ⟨B, q, none⟩ (.int .i64 (-1))) [B] := ((Mod.refl _ [B]).setCell (.inl (by simp)) _).setCell (.inl (by simp)) _
      go_ret
      rw [HJ.out]
      exact ⟨rfl, ⟨σ', hs2.keep hS (by simpa using hBlo) (by simpa using hBm.symm) (by simpa using hBmb.symm), rfl⟩, [], _, _, _, _, (hB2.set_same _ _).set_same _ _, (h.cells.set2 _).set0 _, ⟨rfl, rfl, rfl, rfl⟩, by simp, by simp, hMod2.call hS (by simp)⟩
    · have hzb : (l'.line == 0) = false := by simp [hz]
      rw [hzb]
      have HJ := Lib.hid (show Act.left t l' = ⟨t, .leave l'⟩ by simp [Act.left, hz])
      clear hz hzb
      go_wp2_with fail
      go_ret
      rw [HJ.out]
      exact ⟨rfl, ⟨σ', hs2, rfl⟩, [y], _, _, _, _, hB2, h.cells, ⟨rfl, y, rfl, rfl, rfl, hO2⟩, h.lo, h.sub, hMod2⟩

end Go.Proofs.YtghkdkdlbkmicaaDoor.law11
