/- Layer 10's law: its table, and its example. -/
import Derived.Test.YtghkdkdlbkmicaaDoorTableSys
import Derived.Test.YtghkdkdlbkmicaaDoorTabSt
namespace Go.Proofs.YtghkdkdlbkmicaaDoor
open Go.RowKit

/-- The law's own memory has these words. -/
def GSys (w0 w : World) (m mb : Nat) (g : Int → Int → Int → Int) : Prop := ∃ σ, Sys w0 w m mb σ ∧ σ.g = g
def gput (g : Int → Int → Int → Int) (k a f v : Int) : Int → Int → Int → Int := fun k' a' f' => if k' = k ∧ a' = a ∧ f' = f then v else g k' a' f'

section
variable {w0 w : World} {m mb : Nat} {g : Int → Int → Int → Int} (h : GSys w0 w m mb g)
include h
theorem GSys.lo : w0.heap.size ≤ m ∧ w0.heap.size ≤ mb ∧ m < w.heap.size ∧ mb < w.heap.size ∧ w0.heap.size ≤ w.heap.size := by
  obtain ⟨σ, h, _⟩ := h
  exact ⟨h.lo, h.lob, h.mem.lt, h.mem.ltb, h.mod.size⟩
theorem GSys.mod : Mod w0 w [] := by
  obtain ⟨σ, h, _⟩ := h
  exact h.mod
theorem GSys.range (k a f : Int) : 0 ≤ g k a f ∧ g k a f < 18446744073709551616 := by
  obtain ⟨σ, h, rfl⟩ := h
  exact h.mem.range k a f
theorem GSys.keep {w' : World} {S : List Nat} (hM : Mod w w' S) (hS : ∀ b ∈ S, w0.heap.size ≤ b) (h1 : m ∉ S) (h2 : mb ∉ S) : GSys w0 w' m mb g := by
  obtain ⟨σ, h, rfl⟩ := h
  exact ⟨σ, h.keep hM hS h1 h2, rfl⟩
theorem GSys.keep0 {w' : World} (hM : Mod w w' []) : GSys w0 w' m mb g := h.keep hM (by simp) (by simp) (by simp)
theorem gsys_load (k a f : Int) : Calls Tryd.prog 14 #[.pointer (some ⟨m, 0, none⟩), K k a f] w fun e w' => e = .returned (.int .u64 (g k a f)) ∧ GSys w0 w' m mb g ∧ Mod w w' [m] := by
  obtain ⟨σ, h, rfl⟩ := h
  refine (load_any w m mb σ h.mem k a f).mono ?_
  rintro e w' ⟨he, hM, hm⟩
  exact ⟨he, ⟨_, h.next hM (by simpa using h.lo) hm, rfl⟩, hM⟩
theorem gsys_store (k a f v : Int) (hv0 : 0 ≤ v) (hv1 : v < 18446744073709551616) (hmay : mayA k a f = true) :
    Calls Tryd.prog 11 #[.pointer (some ⟨m, 0, none⟩), K k a f, .int .u64 v] w fun e w' => e = .returned (.tuple #[]) ∧ GSys w0 w' m mb (gput g k a f v) ∧ Mod w w' [m, mb] := by
  obtain ⟨σ, h, rfl⟩ := h
  refine (store_any w m mb σ h.mem k a f v hv0 hv1 hmay).mono ?_
  rintro e w' ⟨he, hM, hm⟩
  have h1 := h.lo
  have h2 := h.lob
  refine ⟨he, ⟨_, h.next hM (by intro b hb; simp at hb; omega) hm, ?_⟩, hM⟩
  unfold MS.store
  rw [if_pos hmay]
  rfl
end

theorem gsys_new {w0 w : World} (hf : FieldsAt w0) (hM : Mod w0 w []) : Calls Tryd.prog 19 #[] w fun e w' =>
    ∃ m mb, e = .returned (.pointer (some ⟨m, 0, none⟩)) ∧ GSys w0 w' m mb (fun _ _ _ => 0) ∧ Mod w w' [] ∧ w.heap.size ≤ m ∧ w.heap.size ≤ mb := by
  refine (sys_new hf hM).mono ?_
  rintro e w' ⟨m, mb, he, h, h1⟩
  exact ⟨m, mb, he, ⟨_, h, rfl⟩, h1⟩

namespace law10

theorem of_any (w : World) (t f : Int) : Calls Tryd.prog 15 #[.int .i64 t, .int .i64 f] w fun e w' => e = .returned (K 8 t f) ∧ Mod w w' [] := by
  go_enter Tryd.func15, Tryd.ntmps15
  go_wp2
  refine bodyPost_ret (v := K 8 t f) ?_ rfl ⟨rfl, (Mod.refl _ _).alloc _⟩
  simp [results, Tryd.results15, go_sem, K]

set_option maxRecDepth 100000 in
theorem table_any (w0 w : World) (hf : FieldsAt w0) (hM : Mod w0 w []) (n : Nat) (hn : n ≤ 4) :
    Calls Tryd.prog 10 #[.int .i64 n] w fun e w' =>
      ∃ m mb, e = .returned (.pointer (some ⟨m, 0, none⟩)) ∧ GSys w0 w' m mb (gput (fun _ _ _ => 0) 5 0 0 n) ∧ Mod w w' [] ∧ w.heap.size ≤ m ∧ w.heap.size ≤ mb := by
  go_enter Tryd.func10, Tryd.ntmps10
  go_wp2_with fail
  refine (gsys_new hf hM).mono ?_
  rintro e w1 ⟨m, mb, rfl, h, hM1, l1, l2⟩
  go_wp2_with fail
  refine (gsys_store h 5 0 0 n (by omega) (by omega) (by decide)).mono ?_
  rintro e w3 ⟨rfl, h3, hM3⟩
  go_wp2
  go_ret
  refine ⟨m, mb, rfl, h3, hM1.call hM3 ?_, l1, l2⟩
  intro c hc
  simp at hc
  right
  omega

section
variable {w0 w : World} {m mb : Nat} {g : Int → Int → Int → Int} {n shut P : Nat}

/-- One joins where there is room. -/
theorem joined_room (h : GSys w0 w m mb g) (hst : St g n shut P) (o : Int) (o0 : 0 ≤ o) (o1 : o < 1000000) (hP : P < 4 * n) (hs : P / 4 ≠ shut) :
    Calls Tryd.prog 16 #[.pointer (some ⟨m, 0, none⟩), .int .i64 o] w fun e w' =>
      e = .returned (.tuple #[.int .i64 P, .int .i64 0, .int .i64 (P / 4 + P % 4 + 13 : Nat)]) ∧ (∃ g', GSys w0 w' m mb g' ∧ St g' n shut (P + 1) ∧ (∀ c, 1 ≤ c → c ≤ 9 → g' 8 P c = 0) ∧ g' 8 P 0 = o + 1) ∧ Mod w w' [m, mb] := by
  obtain ⟨σ, h, rfl⟩ := h
  obtain ⟨hj, hg, he, hst', hz, ho⟩ := hst.join o0 o1 hP hs
  refine (joined_any h o o0 o1 _ hj).mono ?_
  rintro e w' ⟨rfl, h', hM⟩
  rw [hg, he]
  exact ⟨rfl, ⟨_, ⟨_, h', rfl⟩, hst', hz, ho⟩, hM⟩

/-- One finds it full. -/
theorem joined_full (h : GSys w0 w m mb g) (hst : St g n shut P) (o : Int) (o0 : 0 ≤ o) (o1 : o < 1000000) (hP : 4 * n ≤ P) :
    Calls Tryd.prog 16 #[.pointer (some ⟨m, 0, none⟩), .int .i64 o] w fun e w' =>
      e = .returned (.tuple #[.int .i64 (-1), .int .i64 5, .int .i64 (n + 1 : Nat)]) ∧ GSys w0 w' m mb g ∧ Mod w w' [m, mb] := by
  obtain ⟨σ, h, rfl⟩ := h
  obtain ⟨hj, hg, he, hst'⟩ := hst.full o0 hP
  refine (joined_any h o o0 o1 _ hj).mono ?_
  rintro e w' ⟨rfl, h', hM⟩
  rw [hg, he]
  exact ⟨rfl, ⟨_, h', hst'⟩, hM⟩

/-- One takes the place of who is gone. -/
theorem joined_again {t : Nat} (h : GSys w0 w m mb g) (hst : Gone g n shut P t) (o : Int) (o0 : 0 ≤ o) (o1 : o < 1000000) (hP : 4 * n ≤ P) (ht : t < 4 * n) (hs : t / 4 ≠ shut) :
    Calls Tryd.prog 16 #[.pointer (some ⟨m, 0, none⟩), .int .i64 o] w fun e w' =>
      e = .returned (.tuple #[.int .i64 t, .int .i64 0, .int .i64 (t / 4 + t % 4 + 13 : Nat)]) ∧ (∃ g', GSys w0 w' m mb g' ∧ St g' n shut P) ∧ Mod w w' [m, mb] := by
  obtain ⟨σ, h, rfl⟩ := h
  obtain ⟨hj, hg, he, hst'⟩ := hst.join o0 o1 hP ht hs
  refine (joined_any h o o0 o1 _ hj).mono ?_
  rintro e w' ⟨rfl, h', hM⟩
  rw [hg, he]
  exact ⟨rfl, ⟨_, ⟨_, h', rfl⟩, hst'⟩, hM⟩

theorem left_one {t : Nat} (h : GSys w0 w m mb g) (hst : St g n shut P) (t1 : t < 16) (ht : inP shut P t) :
    Calls Tryd.prog 17 #[.pointer (some ⟨m, 0, none⟩), .int .i64 t] w fun e w' =>
      e = .returned (.tuple #[.int .i64 0, .int .i64 6]) ∧ (∃ g', GSys w0 w' m mb g' ∧ Gone g' n shut P t) ∧ Mod w w' [m, mb] := by
  obtain ⟨σ, h, rfl⟩ := h
  obtain ⟨hj, he, hst'⟩ := hst.left t1 ht
  refine (left_any h t (by omega) (by omega) _ hj).mono ?_
  rintro e w' ⟨rfl, h', hM⟩
  rw [he]
  exact ⟨rfl, ⟨_, ⟨_, h', rfl⟩, hst'⟩, hM⟩

theorem left_none {t : Nat} (h : GSys w0 w m mb g) (t1 : t < 16) (h0 : g 8 t 0 = 0) :
    Calls Tryd.prog 17 #[.pointer (some ⟨m, 0, none⟩), .int .i64 t] w fun e w' =>
      e = .returned (.tuple #[.int .i64 6, .int .i64 1]) ∧ GSys w0 w' m mb g ∧ Mod w w' [m, mb] := by
  obtain ⟨σ, h, rfl⟩ := h
  obtain ⟨hj, he, hg⟩ := leave_none (σ0 := σ) t t1 h0
  refine (left_any h t (by omega) (by omega) _ hj).mono ?_
  rintro e w' ⟨rfl, h', hM⟩
  rw [he]
  exact ⟨rfl, ⟨_, h', hg⟩, hM⟩
end

theorem st_table (n : Nat) (hn : n ≤ 4) : St (gput (fun _ _ _ => 0) 5 0 0 n) n n 0 :=
  St.first n n hn (by omega) _ (fun a b c => by rw [if_neg (by omega)]; rfl)

set_option maxRecDepth 100000 in
set_option maxHeartbeats 4000000 in
theorem lives_any (w0 w : World) (hf : FieldsAt w0) (hM : Mod w0 w []) :
    Calls Tryd.prog 9 #[] w fun e w' => e = .returned (.bool true) ∧ Mod w0 w' [] := by
  go_enter Tryd.func9, Tryd.ntmps9
  go_wp2_with fail
  refine (table_any w0 w hf hM 1 (by omega)).mono ?_
  rintro e w1 ⟨m, mb, rfl, h1, hM1, l1, l2⟩
  have hst1 := st_table 1 (by omega)
  go_wp2_with fail
  refine (joined_room h1 hst1 7 (by omega) (by omega) (by omega) (by omega)).mono ?_
  rintro e w2 ⟨rfl, ⟨g2, h2, hst2, _, ho2⟩, hM2⟩
  clear h1 hM1 hM2 hst1
  go_wp2_with fail
  refine (of_any w2 0 0).mono ?_
  rintro e w3 ⟨rfl, hM3⟩
  replace h2 := h2.keep0 hM3
  go_wp2_with fail
  refine (gsys_load h2 8 0 0).mono ?_
  rintro e w4 ⟨rfl, h4, hM4⟩
  rw [show g2 8 0 0 = 8 from ho2]
  clear h2 hM3 hM4 ho2
  go_wp2_with fail
  refine (joined_room h4 hst2 7 (by omega) (by omega) (by omega) (by omega)).mono ?_
  rintro e w5 ⟨rfl, ⟨g5, h5, hst5, _, _⟩, hM5⟩
  clear h4 hst2 hM5
  go_wp2_with fail
  refine (left_one (t := 0) h5 hst5 (by omega) ⟨by omega, by omega⟩).mono ?_
  rintro e w6 ⟨rfl, ⟨g6, h6, hst6⟩, hM6⟩
  have h60 : g6 8 0 0 = 0 := Decidable.not_not.1 (fun hh => ((hst6.own 0 (by omega)).1 hh).2 rfl)
  clear h5 hst5 hM6 hst6
  go_wp2_with fail
  refine (left_none (t := 0) h6 (by omega) h60).mono ?_
  rintro e w7 ⟨rfl, h7, hM7⟩
  clear h6 h60 hM7
  go_wp2_with fail
  refine (table_any w0 w7 hf h7.mod 0 (by omega)).mono ?_
  rintro e w8 ⟨m8, mb8, rfl, h8, hM8, l81, l82⟩
  go_wp2_with fail
  refine (joined_full h8 (st_table 0 (by omega)) 7 (by omega) (by omega) (by omega)).mono ?_
  rintro e w9 ⟨rfl, h9, hM9⟩
  go_wp2_with fail
  go_ret
  exact ⟨rfl, h9.mod⟩

end law10
end Go.Proofs.YtghkdkdlbkmicaaDoor
