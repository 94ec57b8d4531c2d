/- What a Take got. -/
import Derived.Test.YtghkdkdlbkmicaaDoorTake
namespace Go.Proofs.YtghkdkdlbkmicaaDoor
open Go.RowKit

@[go_sem] theorem eql_entries (a : Addr) (n c : Nat) (w : World) : (binOp .eql 46 (.slice (some a) n c) (.slice none 0 0)).run Tryd.prog w = .ok (.bool false) w := by kernel_rfl

@[go_sem] theorem eql_entries_nil (w : World) : (binOp .eql 46 (.slice none 0 0) (.slice none 0 0)).run Tryd.prog w = .ok (.bool true) w := by kernel_rfl

/-- A slice that reads as these entries, in a block that is new. -/
def NewEnts (w : World) (l : List Ent6) (e : Ending) (w' : World) : Prop :=
  ∃ v, e = .returned v ∧ EntSrc w' v l ∧ Mod w w' [] ∧ (∀ y, v.ownBlock = some y → w.heap.size ≤ y)

set_option maxRecDepth 100000 in
set_option maxHeartbeats 1000000 in
theorem cloneE_any (w : World) (v : Value) (l : List Ent6) (h : EntRow w v l) (hl : l.length ≤ 1000) :
    Calls Tryd.prog 68 #[v] w (NewEnts w l) := by
  obtain ⟨i0, z0, hi, hz0, hz1, hz2, hz3⟩ := info_entry
  rcases h.1.2 with ⟨rfl, h0⟩ | ⟨g, cap, cur, rfl, _, hh, h3, h4, h5, h6⟩
  · obtain rfl : l = [] := List.length_eq_zero_iff.1 h0
    go_enter Tryd.func68, Tryd.ntmps68
    go_wp2_with fail
    go_ret
    exact ⟨_, rfl, .inl ⟨rfl, rfl, rfl⟩, Mod.refl _ _, fun y hy => by cases hy⟩
  · have hcells := h.1.cells (g := g) rfl
    have hgl : g < w.heap.size := h.lt rfl
    have hlen := flat_len l
    have HL := Lib.hid hlen
    by_cases hne : l.length = 0
    · obtain rfl : l = [] := List.length_eq_zero_iff.1 hne
      simp only [List.length_nil] at *
      clear hlen hne
      go_enter Tryd.func68, Tryd.ntmps68
      go_wp2_with (first | (at_builtin; go_must (refine wpList_append_row _ rfl _ _ 46 rfl 50 i0 z0 6 40 Tryd.underlying46 hi hz0 hz1 hz2 hz3 (by decide) (by decide) (.slice (some ⟨w.heap.size, 0, none⟩) 0 0) 0 [] rfl ⟨⟨rfl, .inr ⟨w.heap.size, 0, #[], rfl, Nat.zero_le _, Has.new _ _, Nat.le_refl _, Nat.zero_le _, rfl, rfl⟩⟩, by simp⟩ (by omega) (.slice (some ⟨g, 0, none⟩) 0 cap) 0 [] rfl (.inr ⟨g, 0, cap, rfl, by omega, rfl, by simp; omega, fun j u hu => by simp at hu, by simp⟩) (by omega) ?_); intro v' w1 hrow hM hob))
      go_ret
      have hM1 : Mod w w1 [] := ((Mod.refl _ []).alloc _).call hM (fun y hy => .inr (by simp [Value.ownBlock] at hy; omega))
      refine ⟨v', rfl, hrow.src, hM1, fun y hy => ?_⟩
      rcases hob y hy with e | e
      · simp [Value.ownBlock] at e
        omega
      · simp at e
        omega
    · have hn0 : 0 < l.length := by omega
      clear hlen hne
      go_enter Tryd.func68, Tryd.ntmps68
      go_wp2_with (first | (at_builtin; go_must (refine wpList_append_grows _ rfl _ _ 46 rfl 50 i0 z0 6 40 Tryd.underlying46 hi hz0 hz1 hz2 hz3 (by decide) (some ⟨w.heap.size, 0, none⟩) 0 0 [] rfl (fun h => by cases h) rfl (fun b hb j u hu => by simp at hu) ⟨g, 0, none⟩ l.length cap (flat l) rfl HL.out (fun j u hu => by rw [Addr.add_lit]; exact cell_mod (by have := hcells j u hu; rwa [Addr.add_lit] at this) ((Mod.refl _ []).alloc _) (by simp)) (flat_one l) (by omega) (by simp only [maxLen]; omega) (by omega) ?_); intro v' w1 hown hgrow))
      go_ret
      have hM1 : Mod w w1 [] := ((Mod.refl _ []).alloc _).call (Mod.of_grown hgrow) (by simp)
      have hr : EntRow w1 v' l := by
        refine ⟨?_, flat_one l⟩
        have h7 : w1.ownsRow (w.heap.size + 1) 50 6 v' l.length (flat l) := by simpa using hown
        exact ownsRow_zero h7
      refine ⟨v', rfl, hr.src, hM1, fun y hy => ?_⟩
      have := (hown.lt y hy).1
      simp at this
      omega

set_option maxRecDepth 100000 in
theorem clipE_any (w : World) (v : Value) (l : List Ent6) (h : EntSrc w v l) (_hl : l.length ≤ 1000) :
    Calls Tryd.prog 67 #[v] w fun e w' => ∃ v', e = .returned v' ∧ EntSrc w' v' l ∧ v'.ownBlock = v.ownBlock ∧ w = w' := by
  rcases h with ⟨rfl, h0, h1⟩ | ⟨b, off, c, rfl, h0, h1, h4, h2, h3⟩
  · go_enter Tryd.func67, Tryd.ntmps67
    go_wp2_with fail
    go_ret
    exact ⟨_, rfl, .inl ⟨rfl, h0, h1⟩, rfl, rfl⟩
  · have hc' : (l.length : Int) ≤ c := by omega
    have H1 := Lib.hid h1
    have H2 := Lib.hid h2
    have H3 := Lib.hid h3
    clear h1 h2 h3
    go_enter Tryd.func67, Tryd.ntmps67
    go_wp2_with fail
    go_ret
    exact ⟨_, rfl, .inr ⟨b, off, l.length, rfl, Nat.le_refl _, H1.out, h4, H2.out, H3.out⟩, rfl, rfl⟩

set_option maxRecDepth 100000 in
set_option maxHeartbeats 1000000 in
theorem takeGot_any (w : World) (b : Nat) (v : Value) (t : TakeS) (h : TakeAt w b v t) (hl : t.got.length ≤ 1000) (h0 : t.line = 0) :
    Calls Tryd.prog 25 #[.pointer (some ⟨b, 0, none⟩)] w (NewEnts w t.got) := by
  have hb := h.has
  unfold TakeS.obj at hb
  have hrow := h.row
  have c_hb_9 := hb.cell 9; simp only [getRules] at c_hb_9
  go_enter Tryd.func25, Tryd.ntmps25
  go_wp2_with fail
  refine (oover_any w b t.line _ _ hb rfl).mono ?_
  rintro e w1 ⟨rfl, rfl⟩
  rw [show (t.line == 0) = true by simp [h0]]
  go_wp2_with fail
  refine (cloneE_any w v t.got hrow hl).mono ?_
  rintro e w2 ⟨v2, rfl, hs2, hM2, ho2⟩
  have HO := Lib.hid ho2
  clear ho2
  go_wp2_with fail
  refine (clipE_any w2 v2 t.got hs2 hl).mono ?_
  rintro e w3 ⟨v3, rfl, hs3, ho3, rfl⟩
  have HO3 := Lib.hid ho3
  clear ho3
  go_wp2_with fail
  go_ret
  exact ⟨v3, rfl, hs3, hM2, fun y hy => HO.out y (by rw [← HO3.out]; exact hy)⟩

end Go.Proofs.YtghkdkdlbkmicaaDoor
