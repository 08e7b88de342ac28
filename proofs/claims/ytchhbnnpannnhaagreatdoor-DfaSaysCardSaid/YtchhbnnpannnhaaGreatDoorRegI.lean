/- Package re's Leaves and Signs, package regex: their walks. No condition. -/
import Derived.Test.YtchhbnnpannnhaaGreatDoorMg5
namespace Go.Proofs.YtchhbnnpannnhaaGreatDoor
open Go.RowKit Go.Lib Go.Sort IntWalk
attribute [local go_sem] byte_at str_app

theorem own_new (w : World) (c : UInt8) : OwnB (w.alloc (.cells #[encB c] 5)) w.heap.size (.slice (some ⟨w.heap.size, 0, none⟩) 1 1) [c] :=
  World.ownsRow_lit w #[encB c] 1 (Nat.le_refl _) (by simp [maxLen]) rfl
theorem nd_byte {w : World} {g k : Nat} {c : UInt8} (h : Nd w (.sgn c k) g) : w.cell? ⟨g, 1, none⟩ = some (.int .u8 (c.toNat : Int)) := by
  rw [cell_of_row w g 1 _ _ (0, 0) h]; rfl
set_option maxRecDepth 100000 in
set_option maxHeartbeats 4000000 in
theorem leaves_any : ∀ (t : Pt) (g : Nat) (w : World), Nd w t g → (leaves t).length ≤ 50 → Calls Tryz.prog 45 #[.pointer (bl g)] w fun e w' => (∃ v, e = .returned v ∧ OwnB w' w.heap.size v (leaves t)) ∧ Below w.heap.size w w'
  | .non, g, w, h, hl => by
    have k0 := h.kind
    change w.cell? ⟨g, 0, none⟩ = some (.int .i64 0) at k0
    go_enter Tryz.func45, Tryz.ntmps45
    go_wp2_with fail
    go_ret
    exact ⟨⟨_, rfl, World.ownsRow_nil _ _ _ _⟩, Below.refl _ _⟩
  | .emp, g, w, h, hl => by
    have k0 := h.kind
    change w.cell? ⟨g, 0, none⟩ = some (.int .i64 1) at k0
    go_enter Tryz.func45, Tryz.ntmps45
    go_wp2_with fail
    go_ret
    exact ⟨⟨_, rfl, World.ownsRow_nil _ _ _ _⟩, Below.refl _ _⟩
  | .sgn c k, g, w, h, hl => by
    have k0 := h.kind
    have k1 := nd_byte h
    change w.cell? ⟨g, 0, none⟩ = some (.int .i64 2) at k0
    clear h
    go_enter Tryz.func45, Tryz.ntmps45
    go_wp2_with fail
    go_ret
    exact ⟨⟨_, rfl, own_new w c⟩, (Below.refl _ w).alloc (Nat.le_refl _) _⟩
  | .str l, g, w, h, hl => by
    have k0 := h.kind
    change w.cell? ⟨g, 0, none⟩ = some (.int .i64 5) at k0
    obtain ⟨a, h0, h1⟩ := h
    have k3 : w.cell? ⟨g, 3, none⟩ = some (.pointer (some ⟨a, 0, none⟩)) := by rw [cell_of_row w g 3 _ _ (0, 0) h0]; rfl
    have HL := Lib.hid (leaves_any l a w h1 hl)
    clear h0 h1
    go_enter Tryz.func45, Tryz.ntmps45
    go_wp2_with fail
    refine HL.out.mono ?_
    rintro e w1 ⟨⟨v, rfl, ho⟩, hb⟩
    have HO := Lib.hid ho; have HB := Lib.hid hb
    obtain ⟨A1, c1, rfl, _⟩ := own_shape ho
    clear ho hb
    go_wp2_with fail
    go_ret
    exact ⟨⟨_, rfl, HO.out⟩, HB.out⟩
  | .alt l r, g, w, h, hl => by
    have k0 := h.kind
    change w.cell? ⟨g, 0, none⟩ = some (.int .i64 3) at k0
    obtain ⟨a, b, h0, h1, h2⟩ := h
    have k3 : w.cell? ⟨g, 3, none⟩ = some (.pointer (some ⟨a, 0, none⟩)) := by rw [cell_of_row w g 3 _ _ (0, 0) h0]; rfl
    have k4 : w.cell? ⟨g, 4, none⟩ = some (.pointer (some ⟨b, 0, none⟩)) := by rw [cell_of_row w g 4 _ _ (0, 0) h0]; rfl
    have hgl : g < w.heap.size := (Array.getElem?_eq_some_iff.1 h0).1
    have hl1 : (leaves l ++ leaves r).length ≤ 50 := hl
    rw [List.length_append] at hl1
    have HL : Hid (∀ W, Below w.heap.size w W → Calls Tryz.prog 45 #[.pointer (bl a)] W fun e w' => (∃ v, e = .returned v ∧ OwnB w' W.heap.size v (leaves l)) ∧ Below W.heap.size W w') := Lib.hid fun W hW => leaves_any l a W (h1.below hW) (by omega)
    have HR : Hid (∀ W, Below w.heap.size w W → Calls Tryz.prog 45 #[.pointer (bl b)] W fun e w' => (∃ v, e = .returned v ∧ OwnB w' W.heap.size v (leaves r)) ∧ Below W.heap.size W w') := Lib.hid fun W hW => leaves_any r b W (h2.below hW) (by omega)
    have HLE : Hid (leaves (.alt l r) = leaves l ++ leaves r) := Lib.hid rfl
    generalize leaves (.alt l r) = L at *
    generalize leaves l = L1 at *
    generalize leaves r = L2 at *
    have HCC : Hid (∀ (v1 v2 : Value) (W : World), OwnB W w.heap.size v1 L1 → OwnB W w.heap.size v2 L2 → Calls Tryz.prog 62 #[.slice (some ⟨W.heap.size, 0, none⟩) 2 2] (W.alloc (.cells #[v1, v2] 64)) fun e w' => (∃ v, e = .returned v ∧ OwnB w' (W.alloc (.cells #[v1, v2] 64)).heap.size v (L1 ++ L2)) ∧ Below (W.alloc (.cells #[v1, v2] 64)).heap.size (W.alloc (.cells #[v1, v2] 64)) w') :=
      Lib.hid fun v1 v2 W o1 o2 => concat_any v1 v2 L1 L2 w.heap.size W.heap.size _ (o1.keep ((Below.refl _ W).alloc (Nat.le_refl _) _) (Nat.le_refl _)) (o2.keep ((Below.refl _ W).alloc (Nat.le_refl _) _) (Nat.le_refl _)) (by rw [cell_of_row _ W.heap.size 0 _ _ (0, 0) (heap_alloc_new W _)]; rfl) (by rw [cell_of_row _ W.heap.size 1 _ _ (0, 0) (heap_alloc_new W _)]; rfl) (by omega)
    clear h0 h1 h2 hl hl1
    go_enter Tryz.func45, Tryz.ntmps45
    have HLD := Lib.hid (HL.out w.drew (Below.drew (Below.refl _ w)))
    clear HL
    go_upto_region 6 with fail
    go_region_with (first
      | ((with_reducible refine Calls.mono HLD.out ?_); rintro e w1 ⟨⟨v1, rfl, ho1⟩, hb1⟩; have HB1 := Lib.hid ((Below.drew (Below.refl w.heap.size w)).trans hb1); have j3 := (HB1.out.cell (p := ⟨g, 3, none⟩) hgl).trans k3; have j4 := (HB1.out.cell (p := ⟨g, 4, none⟩) hgl).trans k4; obtain ⟨A1, c1, rfl, _⟩ := own_shape ho1)
      | ((with_reducible refine Calls.mono (HR.out _ HB1.out) ?_); rintro e w2 ⟨⟨v2, rfl, ho2⟩, hb2⟩; have HO1 := Lib.hid (OwnB.keep ho1 hb2 (Nat.le_refl _)); have HO2 := Lib.hid (OwnB.base_ ho2 HB1.out.size); have HB2 := Lib.hid (HB1.out.trans (hb2.mono HB1.out.size)); obtain ⟨A2, c2, rfl, _⟩ := own_shape ho2)
      | (refine Calls.mono (HCC.out _ _ _ HO1.out HO2.out) ?_; rintro e w3 ⟨⟨v3, rfl, ho3⟩, hb3⟩; obtain ⟨A3, c3, rfl, _⟩ := own_shape ho3))
    all_goals
      have HO3 := Lib.hid (OwnB.base_ (base' := w.heap.size) ho3 (by have := HB2.out.size; simp; omega))
      have HB3 := Lib.hid ((HB2.out.alloc HB2.out.size _).trans (hb3.mono (by have := HB2.out.size; simp; omega)))
      clear ho1 ho2 ho3 hb1 hb2 hb3
      go_wp2_with fail
      go_ret
      exact ⟨⟨_, rfl, by rw [HLE.out]; have h := HO3.out; rw [List.length_append] at h; exact h⟩, HB3.out⟩
  | .seq l r, g, w, h, hl => by
    have k0 := h.kind
    change w.cell? ⟨g, 0, none⟩ = some (.int .i64 4) at k0
    obtain ⟨a, b, h0, h1, h2⟩ := h
    have k3 : w.cell? ⟨g, 3, none⟩ = some (.pointer (some ⟨a, 0, none⟩)) := by rw [cell_of_row w g 3 _ _ (0, 0) h0]; rfl
    have k4 : w.cell? ⟨g, 4, none⟩ = some (.pointer (some ⟨b, 0, none⟩)) := by rw [cell_of_row w g 4 _ _ (0, 0) h0]; rfl
    have hgl : g < w.heap.size := (Array.getElem?_eq_some_iff.1 h0).1
    have hl1 : (leaves l ++ leaves r).length ≤ 50 := hl
    rw [List.length_append] at hl1
    have HL : Hid (∀ W, Below w.heap.size w W → Calls Tryz.prog 45 #[.pointer (bl a)] W fun e w' => (∃ v, e = .returned v ∧ OwnB w' W.heap.size v (leaves l)) ∧ Below W.heap.size W w') := Lib.hid fun W hW => leaves_any l a W (h1.below hW) (by omega)
    have HR : Hid (∀ W, Below w.heap.size w W → Calls Tryz.prog 45 #[.pointer (bl b)] W fun e w' => (∃ v, e = .returned v ∧ OwnB w' W.heap.size v (leaves r)) ∧ Below W.heap.size W w') := Lib.hid fun W hW => leaves_any r b W (h2.below hW) (by omega)
    have HLE : Hid (leaves (.seq l r) = leaves l ++ leaves r) := Lib.hid rfl
    generalize leaves (.seq l r) = L at *
    generalize leaves l = L1 at *
    generalize leaves r = L2 at *
    have HCC : Hid (∀ (v1 v2 : Value) (W : World), OwnB W w.heap.size v1 L1 → OwnB W w.heap.size v2 L2 → Calls Tryz.prog 62 #[.slice (some ⟨W.heap.size, 0, none⟩) 2 2] (W.alloc (.cells #[v1, v2] 64)) fun e w' => (∃ v, e = .returned v ∧ OwnB w' (W.alloc (.cells #[v1, v2] 64)).heap.size v (L1 ++ L2)) ∧ Below (W.alloc (.cells #[v1, v2] 64)).heap.size (W.alloc (.cells #[v1, v2] 64)) w') :=
      Lib.hid fun v1 v2 W o1 o2 => concat_any v1 v2 L1 L2 w.heap.size W.heap.size _ (o1.keep ((Below.refl _ W).alloc (Nat.le_refl _) _) (Nat.le_refl _)) (o2.keep ((Below.refl _ W).alloc (Nat.le_refl _) _) (Nat.le_refl _)) (by rw [cell_of_row _ W.heap.size 0 _ _ (0, 0) (heap_alloc_new W _)]; rfl) (by rw [cell_of_row _ W.heap.size 1 _ _ (0, 0) (heap_alloc_new W _)]; rfl) (by omega)
    clear h0 h1 h2 hl hl1
    go_enter Tryz.func45, Tryz.ntmps45
    have HLD := Lib.hid (HL.out w.drew (Below.drew (Below.refl _ w)))
    clear HL
    go_upto_region 6 with fail
    go_region_with (first
      | ((with_reducible refine Calls.mono HLD.out ?_); rintro e w1 ⟨⟨v1, rfl, ho1⟩, hb1⟩; have HB1 := Lib.hid ((Below.drew (Below.refl w.heap.size w)).trans hb1); have j3 := (HB1.out.cell (p := ⟨g, 3, none⟩) hgl).trans k3; have j4 := (HB1.out.cell (p := ⟨g, 4, none⟩) hgl).trans k4; obtain ⟨A1, c1, rfl, _⟩ := own_shape ho1)
      | ((with_reducible refine Calls.mono (HR.out _ HB1.out) ?_); rintro e w2 ⟨⟨v2, rfl, ho2⟩, hb2⟩; have HO1 := Lib.hid (OwnB.keep ho1 hb2 (Nat.le_refl _)); have HO2 := Lib.hid (OwnB.base_ ho2 HB1.out.size); have HB2 := Lib.hid (HB1.out.trans (hb2.mono HB1.out.size)); obtain ⟨A2, c2, rfl, _⟩ := own_shape ho2)
      | (refine Calls.mono (HCC.out _ _ _ HO1.out HO2.out) ?_; rintro e w3 ⟨⟨v3, rfl, ho3⟩, hb3⟩; obtain ⟨A3, c3, rfl, _⟩ := own_shape ho3))
    all_goals
      have HO3 := Lib.hid (OwnB.base_ (base' := w.heap.size) ho3 (by have := HB2.out.size; simp; omega))
      have HB3 := Lib.hid ((HB2.out.alloc HB2.out.size _).trans (hb3.mono (by have := HB2.out.size; simp; omega)))
      clear ho1 ho2 ho3 hb1 hb2 hb3
      go_wp2_with fail
      go_ret
      exact ⟨⟨_, rfl, by rw [HLE.out]; have h := HO3.out; rw [List.length_append] at h; exact h⟩, HB3.out⟩
end Go.Proofs.YtchhbnnpannnhaaGreatDoor
