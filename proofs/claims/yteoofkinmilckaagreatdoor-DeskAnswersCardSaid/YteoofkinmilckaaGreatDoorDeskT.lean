/- strings.Builder's String, at the session's builder: only its buffer turns. No condition. -/
import Derived.Test.YteoofkinmilckaaGreatDoorDeskB
namespace Go.Proofs.YteoofkinmilckaaGreatDoor
open Go.RowKit IntWalk
attribute [local go_sem] byte_at str_app
attribute [local go_sem ↓] Go.wp_at_zero Go.wp_at_succ

set_option maxHeartbeats 2000000 in
set_option maxRecDepth 100000 in
/-- strings.Builder's String, of a book whose builder holds a byte at least. -/
theorem bldString1 (B b : Nat) (G : Option Nat) (l : List UInt8) (w : World) (h : Bld B b G l w) (h0 : l ≠ []) :
    Calls Tryz.prog 28 #[.pointer (some ⟨b, 0, none⟩)] w fun e w' => e = .returned (S l) ∧ Fr b G w w' := by
  obtain ⟨hB, p, v, hbk, hp, hown, hG, hne⟩ := h
  rw [← hG] at hne
  have hl0 : l.length ≠ 0 := by simpa using h0
  rw [Lib.byteCells_length] at hown
  obtain ⟨g, cap, cur, rfl, hbg, hg, hnc, hcm, hcs, htake⟩ : ∃ g cap cur, v = .slice (some ⟨g, 0, none⟩) l.length cap ∧ B ≤ g ∧ w.heap[g]? = some (.cells cur 5 (0, 0)) ∧ l.length ≤ cap ∧ cap ≤ maxLen ∧ cur.size = cap * 1 ∧ cur.toList.take (l.length * 1) = Lib.byteCells l := by
    rcases hown.2 with ⟨_, hz⟩ | ⟨g, cap, cur, hv, r⟩
    · exact absurd hz hl0
    · exact ⟨g, cap, cur, hv, r⟩
  have hgb : g ≠ b := fun e => hne (by rw [← e]; rfl)
  have hbk2 : w.drew.heap[b]? = some (.cells #[p, .slice (some ⟨g, 0, none⟩) l.length cap] 56 (0, 0)) := hbk
  have c1 : w.drew.cell? ⟨b, 1, none⟩ = some (.slice (some ⟨g, 0, none⟩) l.length cap) := by rw [Lib.cell_of_heap hbk2]; rfl
  have hSD : (Builtin.unsafeSliceData_ #[38] 80 #[.slice (some ⟨g, 0, none⟩) l.length cap]).run Tryz.prog w.drew = .ok (.pointer (some ⟨g, 0, none⟩)) w.drew :=
    Lib.run_unsafeSliceData_row _ _ _ _ _ _ (by omega)
  have hg' : w.drew.heap[g]? = some (.cells cur 5 (0, 0)) := hg
  have hUS : (Builtin.unsafeString_ #[80, 3] 9 #[.pointer (some ⟨g, 0, none⟩), .int .i64 l.length]).run Tryz.prog w.drew = .ok (.string ⟨l.toArray⟩) (w.drew.freeze ⟨g, 0, none⟩ l.length) := by
    refine Lib.run_unsafeString_row w.drew 80 3 9 5 Tryz.underlying80 cells_byte g cur.size (by simp [World.shape?, hg']) l h0 (by omega) (by unfold maxLen at hcm; omega) ?_
    intro j x hx
    have := hown.cells (g := g) rfl j (.int .u8 x.toNat) (by simp [Lib.byteCells, hx])
    exact this
  have hfr : ∀ k, k ≠ g → (w.drew.freeze ⟨g, 0, none⟩ l.length).heap[k]? = w.heap[k]? := fun k hk => by
    unfold World.freeze
    rw [if_neg hl0]
    show (w.drew.heap.modify g _)[k]? = _
    rw [Array.getElem?_modify, if_neg (fun e => hk e.symm)]
    rfl
  have HFR : Hid (Fr b G w (w.drew.freeze ⟨g, 0, none⟩ l.length)) := Lib.hid ⟨by unfold World.freeze; rw [if_neg hl0]; rfl, by unfold World.freeze; rw [if_neg hl0]; rfl, by unfold World.freeze; rw [if_neg hl0]; rfl, by unfold World.freeze; rw [if_neg hl0]; simp, fun k _ _ hk => hfr k (fun e => hk (by rw [← hG, e]; rfl))⟩
  clear hfr hg' hown htake hcs hbk hbk2 hg
  go_enter Tryz.func28, Tryz.ntmps28
  have mixed : Tryz.prog.follows .mixedOrders = true := by kernel_rfl
  go_wp2
  go_region_o
  all_goals (go_wp2; go_ret; exact ⟨rfl, HFR.out⟩)

set_option maxHeartbeats 2000000 in
set_option maxRecDepth 100000 in
theorem bldString0 (B b : Nat) (G : Option Nat) (w : World) (h : Bld B b G [] w) :
    Calls Tryz.prog 28 #[.pointer (some ⟨b, 0, none⟩)] w fun e w' => e = .returned (S []) ∧ Fr b G w w' := by
  have hUS : ∀ (q : Option Addr) (W : World), (Builtin.unsafeString_ #[80, 3] 9 #[.pointer q, .int .i64 0]).run Tryz.prog W = .ok (.string .empty) W := fun q W => Lib.run_unsafeString_none W _ _ _ q
  have hUS2 : ∀ (q : Option Addr) (W : World), (Builtin.unsafeString_ #[80, 3] 9 #[.pointer q, .int .i64 0]).run Tryz.prog W = .ok (.string ⟨#[]⟩) W := hUS
  have hlt := h.lt
  obtain ⟨hB, p, v, hbk, hp, hown, hG, hne⟩ := h
  have HD : Hid (Fr b G w w.drew) := Lib.hid ⟨rfl, rfl, rfl, Nat.le_refl _, fun _ _ _ _ => rfl⟩
  have mixed : Tryz.prog.follows .mixedOrders = true := by kernel_rfl
  rcases hown.2 with ⟨rfl, _⟩ | ⟨g, cap, cur, rfl, hbg, hg, _, _, _, _⟩
  · have c1 : w.drew.cell? ⟨b, 1, none⟩ = some (.slice none 0 0) := by
      have : w.drew.heap[b]? = some (.cells #[p, .slice none 0 0] 56 (0, 0)) := hbk
      rw [Lib.cell_of_heap this]; rfl
    have hSD : (Builtin.unsafeSliceData_ #[38] 80 #[.slice none 0 0]).run Tryz.prog w.drew = .ok (.pointer none) w.drew := rfl
    clear hown hbk hne hUS
    go_enter Tryz.func28, Tryz.ntmps28
    go_wp2
    go_region_o
    all_goals (go_wp2; go_ret; exact ⟨rfl, HD.out⟩)
  · have hbk' : w.drew.heap[b]? = some (.cells #[p, .slice (some ⟨g, 0, none⟩) 0 cap] 56 (0, 0)) := hbk
    have c1 : w.drew.cell? ⟨b, 1, none⟩ = some (.slice (some ⟨g, 0, none⟩) 0 cap) := by rw [Lib.cell_of_heap hbk']; rfl
    by_cases hc0 : cap = 0
    · subst hc0
      have hSD : (Builtin.unsafeSliceData_ #[38] 80 #[.slice (some ⟨g, 0, none⟩) 0 0]).run Tryz.prog w.drew = .ok (.pointer (some ⟨w.drew.heap.size, 0, none⟩)) (w.drew.alloc (.view ⟨g, 0, none⟩ 5)) :=
        Lib.run_unsafeSliceData_zero w.drew _ _ 5 Tryz.underlying80 ⟨g, 0, none⟩ 0 (5, cur.size) (by have hg' : w.drew.heap[g]? = some (.cells cur 5 (0, 0)) := hg; simp [World.shape?, hg'])
      have c2 : (w.drew.alloc (.view ⟨g, 0, none⟩ 5)).cell? ⟨b, 1, none⟩ = some (.slice (some ⟨g, 0, none⟩) 0 0) := by
        have : (w.drew.alloc (.view ⟨g, 0, none⟩ 5)).heap[b]? = _ := (Lib.alloc_old w.drew _ b hlt).trans hbk
        rw [Lib.cell_of_heap this]; rfl
      have c3 : (w.alloc (.view ⟨g, 0, none⟩ 5)).drew.cell? ⟨b, 1, none⟩ = some (.slice (some ⟨g, 0, none⟩) 0 0) := c2
      have c0 : w.cell? ⟨b, 1, none⟩ = some (.slice (some ⟨g, 0, none⟩) 0 0) := c1
      have HFR : Hid (Fr b G w (w.drew.alloc (.view ⟨g, 0, none⟩ 5))) := Lib.hid ⟨rfl, rfl, rfl, by simp, fun k hk _ _ => Lib.alloc_old w.drew _ k hk⟩
      clear hown hbk hbk' hg hne hUS
      go_enter Tryz.func28, Tryz.ntmps28
      go_wp2
      go_region_o
      all_goals (go_wp2; go_ret; exact ⟨rfl, HFR.out⟩)
    · have hSD : (Builtin.unsafeSliceData_ #[38] 80 #[.slice (some ⟨g, 0, none⟩) 0 cap]).run Tryz.prog w.drew = .ok (.pointer (some ⟨g, 0, none⟩)) w.drew :=
        Lib.run_unsafeSliceData_row _ _ _ _ _ _ hc0
      clear hown hbk hbk' hg hne hUS hc0
      go_enter Tryz.func28, Tryz.ntmps28
      go_wp2
      go_region_o
      all_goals (go_wp2; go_ret; exact ⟨rfl, HD.out⟩)

theorem bldString_fr (B b : Nat) (G : Option Nat) (l : List UInt8) (w : World) (h : Bld B b G l w) :
    Calls Tryz.prog 28 #[.pointer (some ⟨b, 0, none⟩)] w fun e w' => e = .returned (S l) ∧ Fr b G w w' := by
  by_cases h0 : l = []
  · subst h0; exact bldString0 B b G w h
  · exact bldString1 B b G l w h h0
end Go.Proofs.YteoofkinmilckaaGreatDoor
