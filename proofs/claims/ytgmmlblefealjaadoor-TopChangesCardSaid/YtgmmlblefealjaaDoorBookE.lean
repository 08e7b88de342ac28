/- strings.Builder's String, of a book whose builder holds no byte; a book's Text whatever was put down. No condition. -/
import Derived.Test.YtgmmlblefealjaaDoorBookS
namespace Go.Proofs.YtgmmlblefealjaaDoor
open Go.RowKit IntWalk
attribute [local go_sem] byte_at str_app
attribute [local go_sem ↓] Go.wp_at_zero Go.wp_at_succ

set_option maxHeartbeats 2000000 in
set_option maxRecDepth 100000 in
theorem bkString0 (F : Nat → Option Obj) (B b : Nat) (now : List UInt8) (many : Nat) (w : World) (h : Bk F B b now [] many w) (hBw : B ≤ w.heap.size) :
    Calls Tryd.prog 22 #[.pointer (some ⟨b, 1, none⟩)] w fun e w' => e = .returned (S []) ∧ Bk F B b now [] many w' ∧ Below B w w' := by
  have hUS : ∀ (q : Option Addr) (W : World), (Builtin.unsafeString_ #[67, 3] 9 #[.pointer q, .int .i64 0]).run Tryd.prog W = .ok (.string .empty) W := fun q W => Lib.run_unsafeString_none W _ _ _ q
  have hUS2 : ∀ (q : Option Addr) (W : World), (Builtin.unsafeString_ #[67, 3] 9 #[.pointer q, .int .i64 0]).run Tryd.prog W = .ok (.string ⟨#[]⟩) W := hUS
  have hlt := h.lt
  have HH := Lib.hid h
  obtain ⟨p, hp, hAt⟩ := h
  obtain ⟨hB, v, hbk, hown, hne, hFq⟩ := hAt
  have mixed : Tryd.prog.follows .mixedOrders = true := by kernel_rfl
  rcases hown.2 with ⟨rfl, _⟩ | ⟨g, cap, cur, fz, rfl, hbg, hg, _, _, _, _, _⟩
  · have c1 : w.drew.cell? ⟨b, 2, none⟩ = some (.slice none 0 0) := by
      have : w.drew.heap[b]? = some (.cells #[S now, p, .slice none 0 0, .int .i64 (many : Int)] 55 (0, 0)) := hbk
      rw [Lib.cell_of_heap this]; rfl
    have hSD : (Builtin.unsafeSliceData_ #[47] 67 #[.slice none 0 0]).run Tryd.prog w.drew = .ok (.pointer none) w.drew := rfl
    have HK := Lib.hid (show Bk F B b now [] many w.drew from HH.out.below (Below.drew (Below.refl _ w)))
    clear hFq hown hbk hne hUS
    go_enter Tryd.func22, Tryd.ntmps22
    go_wp2
    go_region_o
    all_goals (go_wp2; go_ret; exact ⟨rfl, HK.out, Below.drew (Below.refl B w)⟩)
  · have hbk' : w.drew.heap[b]? = some (.cells #[S now, p, .slice (some ⟨g, 0, none⟩) 0 cap, .int .i64 (many : Int)] 55 (0, 0)) := hbk
    have c1 : w.drew.cell? ⟨b, 2, none⟩ = some (.slice (some ⟨g, 0, none⟩) 0 cap) := by rw [Lib.cell_of_heap hbk']; rfl
    by_cases hc0 : cap = 0
    · subst hc0
      have hSD : (Builtin.unsafeSliceData_ #[47] 67 #[.slice (some ⟨g, 0, none⟩) 0 0]).run Tryd.prog w.drew = .ok (.pointer (some ⟨w.drew.heap.size, 0, none⟩)) (w.drew.alloc (.view ⟨g, 0, none⟩ 5)) :=
        Lib.run_unsafeSliceData_zero w.drew _ _ 5 Tryd.underlying67 ⟨g, 0, none⟩ 0 (5, cur.size) (by have hg' : w.drew.heap[g]? = some (.cells cur 5 fz) := hg; simp [World.shape?, hg'])
      have c2 : (w.drew.alloc (.view ⟨g, 0, none⟩ 5)).cell? ⟨b, 2, none⟩ = some (.slice (some ⟨g, 0, none⟩) 0 0) := by
        have : (w.drew.alloc (.view ⟨g, 0, none⟩ 5)).heap[b]? = _ := (Lib.alloc_old w.drew _ b hlt).trans hbk
        rw [Lib.cell_of_heap this]; rfl
      have c3 : (w.alloc (.view ⟨g, 0, none⟩ 5)).drew.cell? ⟨b, 2, none⟩ = some (.slice (some ⟨g, 0, none⟩) 0 0) := c2
      have c0 : w.cell? ⟨b, 2, none⟩ = some (.slice (some ⟨g, 0, none⟩) 0 0) := c1
      have HK := Lib.hid (show Bk F B b now [] many (w.drew.alloc (.view ⟨g, 0, none⟩ 5)) from HH.out.below ((Below.drew (Below.refl _ w)).alloc (Nat.le_refl _) _))
      have HB := Lib.hid (show Below B w (w.drew.alloc (.view ⟨g, 0, none⟩ 5)) from (Below.drew (Below.refl _ w)).alloc hBw _)
      clear hFq hown hbk hbk' hg hne hUS
      go_enter Tryd.func22, Tryd.ntmps22
      go_wp2
      go_region_o
      all_goals (go_wp2; go_ret; exact ⟨rfl, HK.out, HB.out⟩)
    · have hSD : (Builtin.unsafeSliceData_ #[47] 67 #[.slice (some ⟨g, 0, none⟩) 0 cap]).run Tryd.prog w.drew = .ok (.pointer (some ⟨g, 0, none⟩)) w.drew :=
        Lib.run_unsafeSliceData_row _ _ _ _ _ _ hc0
      have HK := Lib.hid (show Bk F B b now [] many w.drew from HH.out.below (Below.drew (Below.refl _ w)))
      clear hFq hown hbk hbk' hg hne hUS hc0
      go_enter Tryd.func22, Tryd.ntmps22
      go_wp2
      go_region_o
      all_goals (go_wp2; go_ret; exact ⟨rfl, HK.out, Below.drew (Below.refl B w)⟩)

set_option maxHeartbeats 400000 in
theorem text_all (F : Nat → Option Obj) (B b : Nat) (now l : List UInt8) (many : Nat) (w : World) (h : Bk F B b now l many w) (hBw : B ≤ w.heap.size) :
    Calls Tryd.prog 15 #[.pointer (some ⟨b, 0, none⟩)] w fun e w' => e = .returned (S l) ∧ Bk F B b now l many w' ∧ Below B w w' := by
  by_cases h0 : l = []
  · subst h0
    have HC := Lib.hid (bkString0 F B b now many w h hBw)
    clear h
    go_enter Tryd.func15, Tryd.ntmps15
    go_wp2_with fail
    refine HC.out.mono ?_
    rintro e w' ⟨rfl, hk, hb⟩
    have HK := Lib.hid hk; have HB := Lib.hid hb
    clear hk hb
    go_wp2_with fail
    go_ret
    exact ⟨rfl, HK.out, HB.out⟩
  · exact text_any F B b now l many w h h0
end Go.Proofs.YtgmmlblefealjaaDoor
