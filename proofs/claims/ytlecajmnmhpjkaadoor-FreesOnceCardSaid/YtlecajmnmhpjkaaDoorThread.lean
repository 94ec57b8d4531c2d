/- A step of a thread that pops and pushes. -/
import Derived.Test.YtlecajmnmhpjkaaDoorOnce
import Derived.Test.YtlecajmnmhpjkaaDoorLies
namespace Go.Proofs.YtlecajmnmhpjkaaDoor
open Go.RowKit

/-- Three cells of a block, from q on; all others as they were. -/
structure Cells3 (cs cs' : Array Value) (q : Nat) (a b c : Value) : Prop where
  size : cs'.size = cs.size
  c0 : cs'[q]? = some a
  c1 : cs'[q + 1]? = some b
  c2 : cs'[q + 2]? = some c
  far : ∀ j, j < q ∨ q + 3 ≤ j → cs'[j]? = cs[j]?

theorem size_of_get {cs : Array Value} {i : Nat} {v : Value} (h : cs[i]? = some v) : i < cs.size := by
  rcases Nat.lt_or_ge i cs.size with h' | h'
  · exact h'
  · simp [Array.getElem?_eq_none h'] at h
theorem Cells3.refl {cs : Array Value} {q : Nat} {a b c : Value} (h0 : cs[q]? = some a) (h1 : cs[q + 1]? = some b) (h2 : cs[q + 2]? = some c) : Cells3 cs cs q a b c := ⟨rfl, h0, h1, h2, fun _ _ => rfl⟩
theorem Cells3.set0 {cs cs' : Array Value} {q : Nat} {a b c : Value} (h : Cells3 cs cs' q a b c) (v : Value) : Cells3 cs (cs'.setIfInBounds q v) q v b c := by
  have := size_of_get h.c0
  refine ⟨by simpa using h.size, by simp [this], ?_, ?_, fun j hj => ?_⟩
  · rw [Array.getElem?_setIfInBounds_ne (by omega)]
    exact h.c1
  · rw [Array.getElem?_setIfInBounds_ne (by omega)]
    exact h.c2
  · rw [Array.getElem?_setIfInBounds_ne (by omega)]
    exact h.far j hj
theorem Cells3.set1 {cs cs' : Array Value} {q : Nat} {a b c : Value} (h : Cells3 cs cs' q a b c) (v : Value) : Cells3 cs (cs'.setIfInBounds (q + 1) v) q a v c := by
  have := size_of_get h.c1
  refine ⟨by simpa using h.size, ?_, by simp [this], ?_, fun j hj => ?_⟩
  · rw [Array.getElem?_setIfInBounds_ne (by omega)]
    exact h.c0
  · rw [Array.getElem?_setIfInBounds_ne (by omega)]
    exact h.c2
  · rw [Array.getElem?_setIfInBounds_ne (by omega)]
    exact h.far j hj
theorem Cells3.set2 {cs cs' : Array Value} {q : Nat} {a b c : Value} (h : Cells3 cs cs' q a b c) (v : Value) : Cells3 cs (cs'.setIfInBounds (q + 2) v) q a b v := by
  have := size_of_get h.c2
  refine ⟨by simpa using h.size, ?_, ?_, by simp [this], fun j hj => ?_⟩
  · rw [Array.getElem?_setIfInBounds_ne (by omega)]
    exact h.c0
  · rw [Array.getElem?_setIfInBounds_ne (by omega)]
    exact h.c1
  · rw [Array.getElem?_setIfInBounds_ne (by omega)]
    exact h.far j hj

def OpS.Ok : OpS → Prop
  | .none => True
  | .pop p => p.Ok
  | .push p => p.Ok
/-- What is under way lies in block o: the two pointers. -/
def OpAt (w : World) (o : Option Nat) (pv qv : Value) : OpS → Prop
  | .none => o = none ∧ pv = .pointer none ∧ qv = .pointer none
  | .pop p => ∃ b, o = some b ∧ pv = .pointer (some ⟨b, 0, none⟩) ∧ qv = .pointer none ∧ Has w b p.obj
  | .push p => ∃ b, o = some b ∧ pv = .pointer none ∧ qv = .pointer (some ⟨b, 0, none⟩) ∧ Has w b p.obj
theorem OpAt.mod {w w' : World} {o : Option Nat} {pv qv : Value} {x : OpS} {S : List Nat} (h : OpAt w o pv qv x) (hM : Mod w w' S) (hS : ∀ b, o = some b → b ∉ S) : OpAt w' o pv qv x := by
  cases x with
  | none => exact h
  | pop p =>
    obtain ⟨b, h1, h2, h3, h4⟩ := h
    exact ⟨b, h1, h2, h3, h4.mod hM (hS b h1)⟩
  | push p =>
    obtain ⟨b, h1, h2, h3, h4⟩ := h
    exact ⟨b, h1, h2, h3, h4.mod hM (hS b h1)⟩

/-- A thread x in the world w', that a step of it began in w: its row lies in g', what is under way in o'; its three cells are hv, pv, qv. -/
structure Mid (w0 w : World) (m mb B q : Nat) (cs : Array Value) (T : TypeId) (g o : Option Nat) (x : Th) (σ : MS) (w' : World) (g' o' : Option Nat) (hv pv qv : Value) (cs' : Array Value) : Prop where
  sys : Sys w0 w' m mb σ
  has : Has w' B (.cells cs' T)
  cells : Cells3 cs cs' q hv pv qv
  lies : Lies w' g' hv x.held
  op : OpAt w' o' pv qv x.op
  lo : ∀ b, g' = some b ∨ o' = some b → w0.heap.size ≤ b ∧ b ≠ m ∧ b ≠ mb ∧ b ≠ B
  ne : ∀ b, g' = some b → o' ≠ some b
  sub : ∀ b, g' = some b ∨ o' = some b → g = some b ∨ o = some b ∨ w.heap.size ≤ b
  mod : Mod w w' (m :: mb :: B :: (g.toList ++ o.toList))

section
variable {w0 w : World} {m mb B q : Nat} {cs : Array Value} {T : TypeId} {g o : Option Nat} {x : Th} {σ : MS} {w' : World} {g' o' : Option Nat} {hv pv qv : Value} {cs' : Array Value}
theorem Mid.call (h : Mid w0 w m mb B q cs T g o x σ w' g' o' hv pv qv cs') {w'' : World} {S : List Nat} (hM : Mod w' w'' S)
    (hS : ∀ b ∈ S, b = m ∨ b = mb ∨ b = B ∨ g' = some b ∨ o' = some b ∨ w.heap.size ≤ b) : Mod w w'' (m :: mb :: B :: (g.toList ++ o.toList)) := by
  refine h.mod.call hM (fun b hb => ?_)
  rcases hS b hb with e | e | e | e | e | e
  · exact .inl (by simp [e])
  · exact .inl (by simp [e])
  · exact .inl (by simp [e])
  · rcases h.sub b (.inl e) with e | e | e
    · exact .inl (by simp [e])
    · exact .inl (by simp [e])
    · exact .inr e
  · rcases h.sub b (.inr e) with e | e | e
    · exact .inl (by simp [e])
    · exact .inl (by simp [e])
    · exact .inr e
  · exact .inr e
end

/-- A Pop begins; a Push of the first one held. -/
theorem Mid.freshPop {w0 w w1 : World} {m mb B q b : Nat} {cs : Array Value} {T : TypeId} {g : Option Nat} {held : List Int} {σ : MS} {hv : Value}
    (h : Mid w0 w m mb B q cs T g none ⟨held, .none⟩ σ w g none hv (.pointer none) (.pointer none) cs) (hBlo : w0.heap.size ≤ B) (hBm : B ≠ m) (hBmb : B ≠ mb) (hs1 : Sys w0 w1 m mb σ) (hM1 : Mod w w1 []) (hb : b = w.heap.size) (hO : Has w1 b PopS.new.obj) :
    Mid w0 w m mb B q cs T g none ⟨held, .pop PopS.new⟩ σ (w1.setCell ⟨B, q + 1, none⟩ (.pointer (some ⟨b, 0, none⟩))) g (some b) hv (.pointer (some ⟨b, 0, none⟩)) (.pointer none) (cs.setIfInBounds (q + 1) (.pointer (some ⟨b, 0, none⟩))) := by
  have hS : Mod w1 (w1.setCell ⟨B, q + 1, none⟩ (.pointer (some ⟨b, 0, none⟩))) [B] := (Mod.refl _ [B]).setCell (.inl (by simp)) _
  have h1 := h.sys.mod.size
  have h2 := h.sys.mem.lt
  have h3 := h.sys.mem.ltb
  have h4 := h.has.lt
  refine ⟨hs1.keep hS (by simpa using hBlo) (by simpa using hBm.symm) (by simpa using hBmb.symm), (h.has.mod hM1 (by simp)).set_same _ _, h.cells.set1 _, (h.lies.mod hM1 (by simp)).mod hS (fun y hy => by simpa using (h.lo y (.inl hy)).2.2.2), ⟨b, rfl, rfl, rfl, hO.set_other (by simp; omega) _⟩, ?_, ?_, ?_, (hM1.wider (by simp)).call hS (by simp)⟩
  · rintro y (hy | hy)
    · exact h.lo y (.inl hy)
    · cases hy
      omega
  · intro y hy e
    cases e
    have := h.lies.lt hy
    omega
  · rintro y (hy | hy)
    · exact .inl hy
    · cases hy
      exact .inr (.inr (by omega))
theorem Mid.freshPush {w0 w w1 : World} {m mb B q b : Nat} {cs : Array Value} {T : TypeId} {g : Option Nat} {s : Int} {held : List Int} {σ : MS} {hv hv' : Value}
    (h : Mid w0 w m mb B q cs T g none ⟨s :: held, .none⟩ σ w g none hv (.pointer none) (.pointer none) cs) (hBlo : w0.heap.size ≤ B) (hBm : B ≠ m) (hBmb : B ≠ mb) (hs1 : Sys w0 w1 m mb σ) (hM1 : Mod w w1 []) (hb : b = w.heap.size) (hO : Has w1 b (PushS.new s).obj) (hl : Lies w g hv' held) :
    Mid w0 w m mb B q cs T g none ⟨held, .push (PushS.new s)⟩ σ ((w1.setCell ⟨B, q + 2, none⟩ (.pointer (some ⟨b, 0, none⟩))).setCell ⟨B, q, none⟩ hv') g (some b) hv' (.pointer none) (.pointer (some ⟨b, 0, none⟩)) ((cs.setIfInBounds (q + 2) (.pointer (some ⟨b, 0, none⟩))).setIfInBounds q hv') := by
  have hS : Mod w1 ((w1.setCell ⟨B, q + 2, none⟩ (.pointer (some ⟨b, 0, none⟩))).setCell ⟨B, q, none⟩ hv') [B] := ((Mod.refl _ [B]).setCell (.inl (by simp)) _).setCell (.inl (by simp)) _
  have h1 := h.sys.mod.size
  have h2 := h.sys.mem.lt
  have h3 := h.sys.mem.ltb
  have h4 := h.has.lt
  refine ⟨hs1.keep hS (by simpa using hBlo) (by simpa using hBm.symm) (by simpa using hBmb.symm), ((h.has.mod hM1 (by simp)).set_same _ _).set_same _ _, (h.cells.set2 _).set0 _, (hl.mod hM1 (by simp)).mod hS (fun y hy => by simpa using (h.lo y (.inl hy)).2.2.2), ⟨b, rfl, rfl, rfl, (hO.set_other (by simp; omega) _).set_other (by simp; omega) _⟩, ?_, ?_, ?_, (hM1.wider (by simp)).call hS (by simp)⟩
  · rintro y (hy | hy)
    · exact h.lo y (.inl hy)
    · cases hy
      omega
  · intro y hy e
    cases e
    have := h.lies.lt hy
    omega
  · rintro y (hy | hy)
    · exact .inl hy
    · cases hy
      exact .inr (.inr (by omega))

set_option maxRecDepth 100000 in
set_option maxHeartbeats 2000000 in
theorem thStep (w0 w : World) (m mb B q : Nat) (cs : Array Value) (T : TypeId) (g o : Option Nat) (x : Th) (σ : MS) (hv pv qv : Value) (push : Bool) (x' : Th) (σ' : MS)
    (h : Mid w0 w m mb B q cs T g o x σ w g o hv pv qv cs) (hBlo : w0.heap.size ≤ B) (hBm : B ≠ m) (hBmb : B ≠ mb) (hok : x.op.Ok) (hlen : x.held.length ≤ 1000) (hmay : ∀ s ∈ x.held, mayS s = true) (hx : x.step push σ = (x', σ')) :
    Calls Tryd.prog 7 #[.pointer (some ⟨B, q, none⟩), .pointer (some ⟨m, 0, none⟩), .bool push] w fun e w' =>
      e = .returned (.tuple #[]) ∧ ∃ g' o' hv' pv' qv' cs', Mid w0 w m mb B q cs T g o x' σ' w' g' o' hv' pv' qv' cs' := by
  obtain ⟨i0, hi, hz0, hz1, hz2⟩ := info_parts (P := Tryd.prog) (e := 3) (z := .int .i64 0) (size := 1) (bytes := 8) (by kernel_rfl)
  obtain ⟨held, op⟩ := x
  cases op with
  | none =>
    obtain ⟨rfl, rfl, rfl⟩ := h.op
    have c0 := h.has.cell q
    have c1 := h.has.cell (q + 1)
    have c2 := h.has.cell (q + 2)
    rw [h.cells.c0] at c0
    rw [h.cells.c1] at c1
    rw [h.cells.c2] at c2
    have fz := h.has.frozen
    obtain ⟨b, hb⟩ : ∃ b, b = w.heap.size := ⟨_, rfl⟩
    rcases (show (push = true ∧ ∃ s r, held = s :: r) ∨ push = false ∨ (push = true ∧ held = []) by
      cases push with
      | false => exact .inr (.inl rfl)
      | true => cases held with
        | nil => exact .inr (.inr ⟨rfl, rfl⟩)
        | cons s r => exact .inl ⟨rfl, s, r, rfl⟩) with ⟨rfl, s, r, rfl⟩ | hnp
    · obtain ⟨gb, off, cap, rfl, rfl, hcap, hcell, hl, hl1⟩ := h.lies.tail
      have hs := hmay s (by simp)
      have hcap1 : 1 ≤ cap := by omega
      obtain ⟨off', cap', hl2, hoc⟩ : ∃ off' cap', Lies w (some gb) (.slice (some ⟨gb, off', none⟩) r.length cap') r ∧ ((cap = 1 ∧ off' = off ∧ cap' = 0) ∨ (¬ cap = 1 ∧ off' = off + 1 ∧ cap' = cap - 1)) := by
        by_cases hc1 : cap = 1
        · exact ⟨_, _, hl1 hc1, .inl ⟨hc1, rfl, rfl⟩⟩
        · exact ⟨_, _, hl, .inr ⟨hc1, rfl, rfl⟩⟩
      clear hl hl1
      rcases hoc with ⟨rfl, rfl, rfl⟩ | ⟨hc1, rfl, rfl⟩
      case' none.inl.inl => rw [show r.length = 0 by omega] at hl2
      all_goals
        go_enter Tryd.func7, Tryd.ntmps7
        go_wp2_with fail
        refine (sys_newPush h.sys hs).mono ?_
        rintro e w1 ⟨rfl, hs1, hO, hM1⟩
        rw [← hb] at hO ⊢
        have Hb := Lib.hid hb
        clear hb
        have hB1 := h.has.mod hM1 (by simp)
        clear c0 c1 c2 fz
        have c0 := hB1.cell q
        have c1 := hB1.cell (q + 1)
        have c2 := hB1.cell (q + 2)
        rw [h.cells.c0] at c0
        rw [h.cells.c1] at c1
        rw [h.cells.c2] at c2
        have fz := hB1.frozen
        have hlt1 := hB1.lt
        go_wp2_with fail
        replace h := h.freshPush hBlo hBm hBmb hs1 hM1 Hb.out hO hl2
        clear hO
        obtain ⟨_, hbe, _, _, hO⟩ := h.op
        cases hbe
        have hL := h.lo b (.inr rfl)
        have hok := PushS.new_ok hs
        replace hx : (Th.pushed r ((PushS.new s).step σ).1, ((PushS.new s).step σ).2) = (x', σ') := hx
        clear hM1 hB1 hs1
        generalize PushS.new s = p at h hO hok hx
        refine (sys_pushStep h.sys hok hO hL.1 hL.2.1 hL.2.2.1).mono ?_
        rintro e w2 ⟨rfl, hs2, hO2, hM2⟩
        generalize p.step σ = r at hs2 hO2 hx ⊢
        obtain ⟨p', σ1⟩ := r
        obtain ⟨rfl, rfl⟩ := Prod.mk.inj hx
        clear hx
        simp only at hs2 hO2 ⊢
        have hgn : ∀ y, (some gb) = some y → y ∉ [m, mb, b] := fun y hy => by
          have := h.lo y (.inl hy)
          have hn := h.ne y hy
          simp at hn ⊢
          exact ⟨this.2.1, this.2.2.1, fun e => hn e.symm⟩
        have hB2 := h.has.mod hM2 (by simp; exact ⟨hBm, hBmb, fun e => hL.2.2.2 e.symm⟩)
        have hl2 := h.lies.mod hM2 hgn
        have hMod2 := h.call hM2 (by simp)
        clear c0 c1 c2 fz
        have c0 := hB2.cell q
        have c1 := hB2.cell (q + 1)
        have c2 := hB2.cell (q + 2)
        rw [h.cells.c0] at c0
        rw [h.cells.c1] at c1
        rw [h.cells.c2] at c2
        have fz := hB2.frozen
        have hlt2 := hB2.lt
        by_cases hz : p'.line = 0
        · have hp : Th.pushed r p' = ⟨r, .none⟩ := by simp [Th.pushed, hz]
          have hzb : (p'.line == 0) = true := by simp [hz]
          rw [hzb]
          have Hp := Lib.hid hp
          clear hz hzb hp
          go_wp2_with fail
          (first | go_end0 | refine bodyPost_ret (results_none (by kernel_rfl) _ _ _) rfl ?_)
          have hS : Mod w2 (w2.setCell ⟨B, q + 2, none⟩ (.pointer none)) [B] := (Mod.refl _ [B]).setCell (.inl (by simp)) _
          rw [Hp.out]
          refine ⟨rfl, (some gb), none, _, _, _, _, ⟨hs2.keep hS (by simpa using hBlo) (by simpa using hBm.symm) (by simpa using hBmb.symm), hB2.set_same _ _, h.cells.set2 _, hl2.mod hS (fun y hy => by simpa using (h.lo y (.inl hy)).2.2.2), ⟨rfl, rfl, rfl⟩, ?_, fun _ _ => by simp, ?_, hMod2.call hS (by simp)⟩⟩
          · rintro y (hy | hy)
            · exact h.lo y (.inl hy)
            · cases hy
          · rintro y (hy | hy)
            · exact h.sub y (.inl hy)
            · cases hy
        · have hp : Th.pushed r p' = ⟨r, .push p'⟩ := by simp [Th.pushed, hz]
          have hzb : (p'.line == 0) = false := by simp [hz]
          rw [hzb]
          have Hp := Lib.hid hp
          clear hz hzb hp
          go_wp2_with fail
          (first | go_end0 | refine bodyPost_ret (results_none (by kernel_rfl) _ _ _) rfl ?_)
          rw [Hp.out]
          refine ⟨rfl, (some gb), some b, _, _, _, _, ⟨hs2, hB2, h.cells, hl2, ⟨b, rfl, rfl, rfl, hO2⟩, h.lo, h.ne, h.sub, hMod2⟩⟩
    · have hx2 : (Th.popped held (PopS.new.step σ).1, (PopS.new.step σ).2) = (x', σ') := by
        rw [← hx]
        rcases hnp with rfl | ⟨rfl, rfl⟩
        · rfl
        · rfl
      clear hx
      have hx := hx2
      clear hx2
      obtain ⟨pa, cap, rfl, hcap⟩ := h.lies.form
      generalize hn : held.length = n at h c0 hcap
      rcases hnp with rfl | ⟨rfl, hhe⟩
      case' none.inr.inr => rw [hhe] at hn; simp only [List.length_nil] at hn; subst hn; clear hhe
      all_goals
        go_enter Tryd.func7, Tryd.ntmps7
        go_wp2_with fail
        refine (sys_newPop h.sys).mono ?_
        rintro e w1 ⟨rfl, hs1, hO, hM1⟩
        rw [← hb] at hO ⊢
        have Hb := Lib.hid hb
        clear hb
        have hB1 := h.has.mod hM1 (by simp)
        clear c0 c1 c2 fz
        have c0 := hB1.cell q
        have c1 := hB1.cell (q + 1)
        have c2 := hB1.cell (q + 2)
        rw [h.cells.c0] at c0
        rw [h.cells.c1] at c1
        rw [h.cells.c2] at c2
        have fz := hB1.frozen
        have hlt1 := hB1.lt
        go_wp2_with fail
        replace h := h.freshPop hBlo hBm hBmb hs1 hM1 Hb.out hO
        clear hO
        obtain ⟨_, hbe, _, _, hO⟩ := h.op
        cases hbe
        have hL := h.lo b (.inr rfl)
        have hok := PopS.new_ok
        clear hM1 hB1 hs1
        generalize PopS.new = p at h hO hok hx
        refine (sys_popStep h.sys hok hO hL.1 hL.2.1 hL.2.2.1).mono ?_
        rintro e w2 ⟨rfl, hs2, hO2, hM2⟩
        generalize p.step σ = r at hs2 hO2 hx ⊢
        obtain ⟨p', σ1⟩ := r
        obtain ⟨rfl, rfl⟩ := Prod.mk.inj hx
        clear hx
        simp only at hs2 hO2 ⊢
        have hgn : ∀ y, g = some y → y ∉ [m, mb, b] := fun y hy => by
          have := h.lo y (.inl hy)
          have hn := h.ne y hy
          simp at hn ⊢
          exact ⟨this.2.1, this.2.2.1, fun e => hn e.symm⟩
        have hB2 := h.has.mod hM2 (by simp; exact ⟨hBm, hBmb, fun e => hL.2.2.2 e.symm⟩)
        have hl2 := h.lies.mod hM2 hgn
        have hMod2 := h.call hM2 (by simp)
        clear c0 c1 c2 fz
        have c0 := hB2.cell q
        have c1 := hB2.cell (q + 1)
        have c2 := hB2.cell (q + 2)
        rw [h.cells.c0] at c0
        rw [h.cells.c1] at c1
        rw [h.cells.c2] at c2
        have fz := hB2.frozen
        by_cases hz : p'.line = 0
        · have hp : Th.popped held p' = ⟨if p'.ok = true then held ++ [p'.slot] else held, .none⟩ := by simp [Th.popped, hz]
          have hzb : (p'.line == 0) = true := by simp [hz]
          rw [hzb]
          have Hp := Lib.hid hp
          clear hz hzb hp
          go_wp2_with fail
          refine (sys_popGot hs2 hO2).mono ?_
          rintro e w3 ⟨rfl, hs3, hM3⟩
          have hB3 := hB2.mod hM3 (by simp)
          have hl3 := hl2.mod hM3 (by simp)
          have hMod3 := hMod2.call hM3 (by simp)
          have hk3 := hM2.size
          have hk3' := hM3.size
          clear c0 c1 c2 fz
          have c0 := hB3.cell q
          have c1 := hB3.cell (q + 1)
          have c2 := hB3.cell (q + 2)
          rw [h.cells.c0] at c0
          rw [h.cells.c1] at c1
          rw [h.cells.c2] at c2
          have fz := hB3.frozen
          have hlt3 := hB3.lt
          cases hk : p'.ok
          · rw [hk] at Hp
            go_wp2_with fail
            (first | go_end0 | refine bodyPost_ret (results_none (by kernel_rfl) _ _ _) rfl ?_)
            have hS : Mod w3 (w3.setCell ⟨B, q + 1, none⟩ (.pointer none)) [B] := (Mod.refl _ [B]).setCell (.inl (by simp)) _
            rw [Hp.out]
            refine ⟨rfl, g, none, _, _, _, _, ⟨hs3.keep hS (by simpa using hBlo) (by simpa using hBm.symm) (by simpa using hBmb.symm), hB3.set_same _ _, h.cells.set1 _, hl3.mod hS (fun y hy => by simpa using (h.lo y (.inl hy)).2.2.2), ⟨rfl, rfl, rfl⟩, ?_, fun _ _ => by simp, ?_, hMod3.call hS (by simp)⟩⟩
            · rintro y (hy | hy)
              · exact h.lo y (.inl hy)
              · cases hy
            · rintro y (hy | hy)
              · exact h.sub y (.inl hy)
              · cases hy
          · rw [hk] at Hp
            have hgB : B ∉ g.toList := fun e => by
              have e' : g = some B := by simpa using e
              exact (h.lo B (.inl e')).2.2.2 rfl
            go_wp2_with (first | (at_builtin; go_must (refine wpList_append_lies1 _ rfl _ _ 28 rfl 3 i0 (.int .i64 0) 8 Tryd.underlying28 hi hz0 hz1 hz2 rfl (by decide) g _ held rfl (hl3.mod ((Mod.refl _ []).alloc _) (by simp)) hlen w3.heap.size 1 p'.slot rfl (by simp) ?_); intro v4 w4 g4 hl4 hM4 hg4; obtain ⟨pa4, n4, cp4, rfl⟩ := hl4.slice; have hB4 := (hB3.alloc (.cells #[.int .i64 p'.slot] 3)).mod hM4 hgB; clear c0 c1 c2 fz; have c0 := hB4.cell q; have c1 := hB4.cell (q + 1); have c2 := hB4.cell (q + 2); rw [h.cells.c0] at c0; rw [h.cells.c1] at c1; rw [h.cells.c2] at c2; have fz := hB4.frozen))
            (first | go_end0 | refine bodyPost_ret (results_none (by kernel_rfl) _ _ _) rfl ?_)
            have hS : Mod w4 ((w4.setCell ⟨B, q, none⟩ (.slice pa4 n4 cp4)).setCell ⟨B, q + 1, none⟩ (.pointer none)) [B] := ((Mod.refl _ [B]).setCell (.inl (by simp)) _).setCell (.inl (by simp)) _
            rw [Hp.out]
            have hA : Mod w3 ((w4.setCell ⟨B, q, none⟩ (.slice pa4 n4 cp4)).setCell ⟨B, q + 1, none⟩ (.pointer none)) (B :: g.toList) := ((((Mod.refl w3 (B :: g.toList)).alloc _).call hM4 (fun y hy => .inl (by simp at hy ⊢; exact .inr hy))).call hS (fun y hy => .inl (by simp at hy ⊢; exact .inl hy)))
            have hz1 := hs3.mem.lt
            have hz2 := hs3.mem.ltb
            have hz3 := hs3.mod.size
            have hz4 := hMod3.size
            simp at hg4
            refine ⟨rfl, g4, none, _, _, _, _, ⟨hs3.keep hA ?_ ?_ ?_, (hB4.set_same _ _).set_same _ _, (h.cells.set0 _).set1 _, hl4.mod hS ?_, ⟨rfl, rfl, rfl⟩, ?_, fun _ _ => by simp, ?_, hMod3.call hA ?_⟩⟩
            · intro y hy
              simp at hy
              rcases hy with rfl | hy
              · exact hBlo
              · exact (h.lo y (.inl hy)).1
            · intro hy
              simp at hy
              rcases hy with hy | hy
              · exact hBm hy.symm
              · exact (h.lo m (.inl hy)).2.1 rfl
            · intro hy
              simp at hy
              rcases hy with hy | hy
              · exact hBmb hy.symm
              · exact (h.lo mb (.inl hy)).2.2.1 rfl
            · intro y hy
              rcases hg4 y hy with e | e
              · simpa using (h.lo y (.inl e)).2.2.2
              · simp
                omega
            · rintro y (hy | hy)
              · rcases hg4 y hy with e | e
                · exact h.lo y (.inl e)
                · exact ⟨by omega, by omega, by omega, by omega⟩
              · cases hy
            · rintro y (hy | hy)
              · rcases hg4 y hy with e | e
                · exact h.sub y (.inl e)
                · exact .inr (.inr (by omega))
              · cases hy
            · intro y hy
              simp at hy
              rcases hy with rfl | hy
              · exact .inl (by simp)
              · rcases h.sub y (.inl hy) with e | e | e
                · exact .inl (by simp [e])
                · exact .inl (by simp [e])
                · exact .inr e
        · have hp : Th.popped held p' = ⟨held, .pop p'⟩ := by simp [Th.popped, hz]
          have hzb : (p'.line == 0) = false := by simp [hz]
          rw [hzb]
          have Hp := Lib.hid hp
          clear hz hzb hp
          go_wp2_with fail
          (first | go_end0 | refine bodyPost_ret (results_none (by kernel_rfl) _ _ _) rfl ?_)
          rw [Hp.out]
          refine ⟨rfl, g, some b, _, _, _, _, ⟨hs2, hB2, h.cells, hl2, ⟨b, rfl, rfl, rfl, hO2⟩, h.lo, h.ne, h.sub, hMod2⟩⟩
  | push p =>
    obtain ⟨b, rfl, rfl, rfl, hO⟩ := h.op
    have hL := h.lo b (.inr rfl)
    have c0 := h.has.cell q
    have c1 := h.has.cell (q + 1)
    have c2 := h.has.cell (q + 2)
    rw [h.cells.c0] at c0
    rw [h.cells.c1] at c1
    rw [h.cells.c2] at c2
    have fz := h.has.frozen
    go_enter Tryd.func7, Tryd.ntmps7
    go_wp2_with fail
    replace hx : (Th.pushed held (p.step σ).1, (p.step σ).2) = (x', σ') := hx
    refine (sys_pushStep h.sys hok hO hL.1 hL.2.1 hL.2.2.1).mono ?_
    rintro e w2 ⟨rfl, hs2, hO2, hM2⟩
    generalize p.step σ = r at hs2 hO2 hx ⊢
    obtain ⟨p', σ1⟩ := r
    obtain ⟨rfl, rfl⟩ := Prod.mk.inj hx
    clear hx
    simp only at hs2 hO2 ⊢
    have hgn : ∀ y, g = some y → y ∉ [m, mb, b] := fun y hy => by
      have := h.lo y (.inl hy)
      have hn := h.ne y hy
      simp at hn ⊢
      exact ⟨this.2.1, this.2.2.1, fun e => hn e.symm⟩
    have hB2 := h.has.mod hM2 (by simp; exact ⟨hBm, hBmb, fun e => hL.2.2.2 e.symm⟩)
    have hl2 := h.lies.mod hM2 hgn
    have hMod2 := h.call hM2 (by simp)
    clear c0 c1 c2 fz
    have c0 := hB2.cell q
    have c1 := hB2.cell (q + 1)
    have c2 := hB2.cell (q + 2)
    rw [h.cells.c0] at c0
    rw [h.cells.c1] at c1
    rw [h.cells.c2] at c2
    have fz := hB2.frozen
    have hlt2 := hB2.lt
    by_cases hz : p'.line = 0
    · have hp : Th.pushed held p' = ⟨held, .none⟩ := by simp [Th.pushed, hz]
      have hzb : (p'.line == 0) = true := by simp [hz]
      rw [hzb]
      have Hp := Lib.hid hp
      clear hz hzb hp
      go_wp2_with fail
      (first | go_end0 | refine bodyPost_ret (results_none (by kernel_rfl) _ _ _) rfl ?_)
      have hS : Mod w2 (w2.setCell ⟨B, q + 2, none⟩ (.pointer none)) [B] := (Mod.refl _ [B]).setCell (.inl (by simp)) _
      rw [Hp.out]
      refine ⟨rfl, g, none, _, _, _, _, ⟨hs2.keep hS (by simpa using hBlo) (by simpa using hBm.symm) (by simpa using hBmb.symm), hB2.set_same _ _, h.cells.set2 _, hl2.mod hS (fun y hy => by simpa using (h.lo y (.inl hy)).2.2.2), ⟨rfl, rfl, rfl⟩, ?_, fun _ _ => by simp, ?_, hMod2.call hS (by simp)⟩⟩
      · rintro y (hy | hy)
        · exact h.lo y (.inl hy)
        · cases hy
      · rintro y (hy | hy)
        · exact h.sub y (.inl hy)
        · cases hy
    · have hp : Th.pushed held p' = ⟨held, .push p'⟩ := by simp [Th.pushed, hz]
      have hzb : (p'.line == 0) = false := by simp [hz]
      rw [hzb]
      have Hp := Lib.hid hp
      clear hz hzb hp
      go_wp2_with fail
      (first | go_end0 | refine bodyPost_ret (results_none (by kernel_rfl) _ _ _) rfl ?_)
      rw [Hp.out]
      refine ⟨rfl, g, some b, _, _, _, _, ⟨hs2, hB2, h.cells, hl2, ⟨b, rfl, rfl, rfl, hO2⟩, h.lo, h.ne, h.sub, hMod2⟩⟩
  | pop p =>
    obtain ⟨b, rfl, rfl, rfl, hO⟩ := h.op
    have hL := h.lo b (.inr rfl)
    have c0 := h.has.cell q
    have c1 := h.has.cell (q + 1)
    have c2 := h.has.cell (q + 2)
    rw [h.cells.c0] at c0
    rw [h.cells.c1] at c1
    rw [h.cells.c2] at c2
    go_enter Tryd.func7, Tryd.ntmps7
    go_wp2_with fail
    have fz := h.has.frozen
    replace hx : (Th.popped held (p.step σ).1, (p.step σ).2) = (x', σ') := hx
    refine (sys_popStep h.sys hok hO hL.1 hL.2.1 hL.2.2.1).mono ?_
    rintro e w2 ⟨rfl, hs2, hO2, hM2⟩
    generalize p.step σ = r at hs2 hO2 hx ⊢
    obtain ⟨p', σ1⟩ := r
    obtain ⟨rfl, rfl⟩ := Prod.mk.inj hx
    clear hx
    simp only at hs2 hO2 ⊢
    have hgn : ∀ y, g = some y → y ∉ [m, mb, b] := fun y hy => by
      have := h.lo y (.inl hy)
      have hn := h.ne y hy
      simp at hn ⊢
      exact ⟨this.2.1, this.2.2.1, fun e => hn e.symm⟩
    have hB2 := h.has.mod hM2 (by simp; exact ⟨hBm, hBmb, fun e => hL.2.2.2 e.symm⟩)
    have hl2 := h.lies.mod hM2 hgn
    have hMod2 := h.call hM2 (by simp)
    clear c0 c1 c2 fz
    have c0 := hB2.cell q
    have c1 := hB2.cell (q + 1)
    have c2 := hB2.cell (q + 2)
    rw [h.cells.c0] at c0
    rw [h.cells.c1] at c1
    rw [h.cells.c2] at c2
    have fz := hB2.frozen
    by_cases hz : p'.line = 0
    · have hp : Th.popped held p' = ⟨if p'.ok = true then held ++ [p'.slot] else held, .none⟩ := by simp [Th.popped, hz]
      have hzb : (p'.line == 0) = true := by simp [hz]
      rw [hzb]
      have Hp := Lib.hid hp
      clear hz hzb hp
      go_wp2_with fail
      refine (sys_popGot hs2 hO2).mono ?_
      rintro e w3 ⟨rfl, hs3, hM3⟩
      have hB3 := hB2.mod hM3 (by simp)
      have hl3 := hl2.mod hM3 (by simp)
      have hMod3 := hMod2.call hM3 (by simp)
      have hk3 := hM2.size
      have hk3' := hM3.size
      clear c0 c1 c2 fz
      have c0 := hB3.cell q
      have c1 := hB3.cell (q + 1)
      have c2 := hB3.cell (q + 2)
      rw [h.cells.c0] at c0
      rw [h.cells.c1] at c1
      rw [h.cells.c2] at c2
      have fz := hB3.frozen
      have hlt3 := hB3.lt
      cases hk : p'.ok
      · rw [hk] at Hp
        go_wp2_with fail
        (first | go_end0 | refine bodyPost_ret (results_none (by kernel_rfl) _ _ _) rfl ?_)
        have hS : Mod w3 (w3.setCell ⟨B, q + 1, none⟩ (.pointer none)) [B] := (Mod.refl _ [B]).setCell (.inl (by simp)) _
        rw [Hp.out]
        refine ⟨rfl, g, none, _, _, _, _, ⟨hs3.keep hS (by simpa using hBlo) (by simpa using hBm.symm) (by simpa using hBmb.symm), hB3.set_same _ _, h.cells.set1 _, hl3.mod hS (fun y hy => by simpa using (h.lo y (.inl hy)).2.2.2), ⟨rfl, rfl, rfl⟩, ?_, fun _ _ => by simp, ?_, hMod3.call hS (by simp)⟩⟩
        · rintro y (hy | hy)
          · exact h.lo y (.inl hy)
          · cases hy
        · rintro y (hy | hy)
          · exact h.sub y (.inl hy)
          · cases hy
      · rw [hk] at Hp
        have hgB : B ∉ g.toList := fun e => by
          have e' : g = some B := by simpa using e
          exact (h.lo B (.inl e')).2.2.2 rfl
        go_wp2_with (first | (at_builtin; go_must (refine wpList_append_lies1 _ rfl _ _ 28 rfl 3 i0 (.int .i64 0) 8 Tryd.underlying28 hi hz0 hz1 hz2 rfl (by decide) g _ held rfl (hl3.mod ((Mod.refl _ []).alloc _) (by simp)) hlen w3.heap.size 1 p'.slot rfl (by simp) ?_); intro v4 w4 g4 hl4 hM4 hg4; obtain ⟨pa4, n4, cp4, rfl⟩ := hl4.slice; have hB4 := (hB3.alloc (.cells #[.int .i64 p'.slot] 3)).mod hM4 hgB; clear c0 c1 c2 fz; have c0 := hB4.cell q; have c1 := hB4.cell (q + 1); have c2 := hB4.cell (q + 2); rw [h.cells.c0] at c0; rw [h.cells.c1] at c1; rw [h.cells.c2] at c2; have fz := hB4.frozen))
        (first | go_end0 | refine bodyPost_ret (results_none (by kernel_rfl) _ _ _) rfl ?_)
        have hS : Mod w4 ((w4.setCell ⟨B, q, none⟩ (.slice pa4 n4 cp4)).setCell ⟨B, q + 1, none⟩ (.pointer none)) [B] := ((Mod.refl _ [B]).setCell (.inl (by simp)) _).setCell (.inl (by simp)) _
        rw [Hp.out]
        have hA : Mod w3 ((w4.setCell ⟨B, q, none⟩ (.slice pa4 n4 cp4)).setCell ⟨B, q + 1, none⟩ (.pointer none)) (B :: g.toList) := ((((Mod.refl w3 (B :: g.toList)).alloc _).call hM4 (fun y hy => .inl (by simp at hy ⊢; exact .inr hy))).call hS (fun y hy => .inl (by simp at hy ⊢; exact .inl hy)))
        have hz1 := hs3.mem.lt
        have hz2 := hs3.mem.ltb
        have hz3 := hs3.mod.size
        have hz4 := hMod3.size
        simp at hg4
        refine ⟨rfl, g4, none, _, _, _, _, ⟨hs3.keep hA ?_ ?_ ?_, (hB4.set_same _ _).set_same _ _, (h.cells.set0 _).set1 _, hl4.mod hS ?_, ⟨rfl, rfl, rfl⟩, ?_, fun _ _ => by simp, ?_, hMod3.call hA ?_⟩⟩
        · intro y hy
          simp at hy
          rcases hy with rfl | hy
          · exact hBlo
          · exact (h.lo y (.inl hy)).1
        · intro hy
          simp at hy
          rcases hy with hy | hy
          · exact hBm hy.symm
          · exact (h.lo m (.inl hy)).2.1 rfl
        · intro hy
          simp at hy
          rcases hy with hy | hy
          · exact hBmb hy.symm
          · exact (h.lo mb (.inl hy)).2.2.1 rfl
        · intro y hy
          rcases hg4 y hy with e | e
          · simpa using (h.lo y (.inl e)).2.2.2
          · simp
            omega
        · rintro y (hy | hy)
          · rcases hg4 y hy with e | e
            · exact h.lo y (.inl e)
            · exact ⟨by omega, by omega, by omega, by omega⟩
          · cases hy
        · rintro y (hy | hy)
          · rcases hg4 y hy with e | e
            · exact h.sub y (.inl e)
            · exact .inr (.inr (by omega))
          · cases hy
        · intro y hy
          simp at hy
          rcases hy with rfl | hy
          · exact .inl (by simp)
          · rcases h.sub y (.inl hy) with e | e | e
            · exact .inl (by simp [e])
            · exact .inl (by simp [e])
            · exact .inr e
    · have hp : Th.popped held p' = ⟨held, .pop p'⟩ := by simp [Th.popped, hz]
      have hzb : (p'.line == 0) = false := by simp [hz]
      rw [hzb]
      have Hp := Lib.hid hp
      clear hz hzb hp
      go_wp2_with fail
      (first | go_end0 | refine bodyPost_ret (results_none (by kernel_rfl) _ _ _) rfl ?_)
      rw [Hp.out]
      refine ⟨rfl, g, some b, _, _, _, _, ⟨hs2, hB2, h.cells, hl2, ⟨b, rfl, rfl, rfl, hO2⟩, h.lo, h.ne, h.sub, hMod2⟩⟩

end Go.Proofs.YtlecajmnmhpjkaaDoor
