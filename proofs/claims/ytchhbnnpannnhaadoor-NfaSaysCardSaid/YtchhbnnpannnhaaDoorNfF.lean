/- nfa.of at one behind the other. No condition. -/
import Derived.Test.YtchhbnnpannnhaaDoorNfE
namespace Go.Proofs.YtchhbnnpannnhaaDoor
open Go.RowKit Go.Maps
set_option linter.unusedVariables false

set_option maxRecDepth 100000 in
set_option maxHeartbeats 4000000 in
theorem of_seq (l r : Pt) (ihl : OfC l) (ihr : OfC r) : OfC (.seq l r) := by
  intro g bn Ln w h hn hsm
  have k0 := h.kind
  obtain ⟨a, b, h0, h1, h2⟩ := h
  have k3 : w.cell? ⟨g, 3, none⟩ = some (.pointer (some ⟨a, 0, none⟩)) := by rw [cell_of_row w g 3 _ _ (0, 0) h0]; rfl
  have k4 : w.cell? ⟨g, 4, none⟩ = some (.pointer (some ⟨b, 0, none⟩)) := by rw [cell_of_row w g 4 _ _ (0, 0) h0]; rfl
  have hgl : g < w.heap.size := (Array.getElem?_eq_some_iff.1 h0).1
  have kb : ∀ o, (w.alloc o).cell? ⟨g, 0, none⟩ = some (.int .i64 4) := fun o => (World.cell?_of_block (w := w) (Below.heap_alloc _ _ _ hgl)).trans k0
  have kk3 : ∀ o, (w.alloc o).cell? ⟨g, 3, none⟩ = some (.pointer (some ⟨a, 0, none⟩)) := fun o => (World.cell?_of_block (w := w) (Below.heap_alloc _ _ _ hgl)).trans k3
  have kk4 : ∀ o, (w.alloc o).cell? ⟨g, 4, none⟩ = some (.pointer (some ⟨b, 0, none⟩)) := fun o => (World.cell?_of_block (w := w) (Below.heap_alloc _ _ _ hgl)).trans k4
  have hbelow : ∀ o, Below w.heap.size w (w.alloc o) := fun o => (Below.refl _ w).alloc (Nat.le_refl _) o
  have HL := Lib.hid ihl
  have HR := Lib.hid ihr
  have HS := Lib.hid (show Sm 64 l ∧ Sm 64 r from hsm)
  have HT : Hid (fsP (.seq l r) = (if nul l = true then fsP l ++ fsP r else fsP l) ∧ lsP (.seq l r) = (if nul r = true then lsP r ++ lsP l else lsP r) ∧ prP (.seq l r) = prP l ++ prP r ++ crs (lsP l) (fsP r)) := Lib.hid ⟨rfl, rfl, rfl⟩
  have hbx : (w.alloc (.cells #[.map (some bn)] 50)).cell? ⟨w.heap.size, 0, none⟩ = some (.map (some bn)) := by rw [cell_of_row _ w.heap.size 0 _ _ (0, 0) (heap_alloc_new w _)]; rfl
  have HN := Lib.hid hn
  have HD := Lib.hid (And.intro h1 h2)
  clear ihl ihr hsm hn h0 h1 h2 k0 k3 k4
  generalize fsP (.seq l r) = F at *
  generalize lsP (.seq l r) = G at *
  generalize prP (.seq l r) = E at *
  go_enter Tryd.func16, Tryd.ntmps16
  go_upto_region 10 with fail
  have c0 := kk3 (.cells #[.map (some bn)] 50)
  have c4 := kk4 (.cells #[.map (some bn)] 50)
  have HB0 := Lib.hid (hbelow (.cells #[.map (some bn)] 50))
  have hsz : (w.alloc (.cells #[.map (some bn)] 50)).heap.size = w.heap.size + 1 := by simp
  have cb := hbx
  clear kb kk3 kk4 hbelow hbx
  generalize w.alloc (.cells #[.map (some bn)] 50) = W0 at *
  have HW0 : Hid (OfS bn w.heap.size w W0 W0 ∧ SJ W0 bn Ln) := Lib.hid ⟨OfS.start' cb (HN.out.below HB0.out HN.out.lt) HB0.out HN.out.lt, HN.out.below HB0.out HN.out.lt⟩
  have HDL := Lib.hid (HD.out.1.below HB0.out)
  have HDR := Lib.hid (HD.out.2.below HB0.out)
  have HC4 := Lib.hid c4
  have HC3 := Lib.hid c0
  have HCB := Lib.hid cb
  have cW := c0
  clear HN HD HB0 c4
  go_cut [11, 12] from 64 to 122 (fun f1 l1 wx => ∃ a1 b1, f1 = .map (some a1) ∧ l1 = .map (some b1) ∧ Hid (OfS bn w.heap.size w W0 wx ∧ SJ wx bn (Ln ++ prP l) ∧ SI wx a1 (fsP l) ∧ SI wx b1 (lsP l) ∧ W0.heap.size ≤ a1 ∧ W0.heap.size ≤ b1))
  case first =>
    go_region_with (refine (HL.out a bn Ln _ (HW0.out.1.drew.nd HDL.out) (HW0.out.2.block rfl) HS.out.1).mono ?_; rintro e w1 ⟨a1, b1, rfl, h5, h6, h7, h8, h9, h10⟩; have HX : Hid (OfS bn w.heap.size w W0 w1 ∧ SJ w1 bn (Ln ++ prP l) ∧ SI w1 a1 (fsP l) ∧ SI w1 b1 (lsP l) ∧ W0.heap.size ≤ a1 ∧ W0.heap.size ≤ b1) := Lib.hid ⟨HW0.out.1.drew.by h10, h9, h7, h8, h5, h6⟩; clear h5 h6 h7 h8 h9 h10)
    all_goals
      go_wp2_with fail
      go_meet
      exact ⟨_, _, rfl, rfl, HX⟩
  case rest =>
    obtain ⟨a1, b1, rfl, rfl, HX⟩ := hcut
    have c4 := HX.out.1.cell HC4.out
    have cx := HX.out.1.cell cb
    clear c0 cW cb
    go_upto_region 11 with fail
    go_cut [13, 14] from 73 to 122 (fun f1 l1 wx => ∃ a2 b2, f1 = .map (some a2) ∧ l1 = .map (some b2) ∧ Hid (OfS bn w.heap.size w W0 wx ∧ SJ wx bn (Ln ++ prP l ++ prP r) ∧ SI wx a1 (fsP l) ∧ SI wx b1 (lsP l) ∧ SI wx a2 (fsP r) ∧ SI wx b2 (lsP r) ∧ W0.heap.size ≤ a1 ∧ W0.heap.size ≤ b1 ∧ W0.heap.size ≤ a2 ∧ W0.heap.size ≤ b2))
    case first =>
      have ha : a1 ≠ bn ∧ b1 ≠ bn := by have h := HX.out; have := h.1.old; have := h.1.start.size; exact ⟨by have := h.2.2.2.2.1; omega, by have := h.2.2.2.2.2; omega⟩
      go_region_with (refine (HR.out b bn _ _ (HX.out.1.drew.nd HDR.out) (HX.out.2.1.block rfl) HS.out.2).mono ?_; rintro e w1 ⟨a2, b2, rfl, h5, h6, h7, h8, h9, h10⟩; have HY : Hid (OfS bn w.heap.size w W0 w1 ∧ SJ w1 bn (Ln ++ prP l ++ prP r) ∧ SI w1 a1 (fsP l) ∧ SI w1 b1 (lsP l) ∧ SI w1 a2 (fsP r) ∧ SI w1 b2 (lsP r) ∧ W0.heap.size ≤ a1 ∧ W0.heap.size ≤ b1 ∧ W0.heap.size ≤ a2 ∧ W0.heap.size ≤ b2) := Lib.hid ⟨HX.out.1.drew.by h10, h9, MSet.kept (w := wc.drew) (HX.out.2.2.1.block rfl) h10 (fun e => ha.1 (Option.some.inj e)), MSet.kept (w := wc.drew) (HX.out.2.2.2.1.block rfl) h10 (fun e => ha.2 (Option.some.inj e)), h7, h8, HX.out.2.2.2.2.1, HX.out.2.2.2.2.2, Nat.le_trans HX.out.1.size h5, Nat.le_trans HX.out.1.size h6⟩; clear h5 h6 h7 h8 h9 h10)
      all_goals
        go_wp2_with fail
        go_meet
        exact ⟨_, _, rfl, rfl, HY⟩
    case rest =>
      have HX1 := HX
      clear HX c4 cx
      obtain ⟨a2, b2, rfl, rfl, HX⟩ := hcut
      have HJ := Lib.hid (join_any b1 a2 bn w.heap.size _ _ _ wc HX.out.2.2.2.1 HX.out.2.2.2.2.1 HX.out.2.1 (HX.out.1.cell HCB.out) (by have := HX.out.1.size; omega) (by have := HX.out.1.old; omega) (by have := HX.out.1.old; have := HX.out.2.2.2.2.2.2.2.1; omega) (by have := HX.out.1.old; have := HX.out.2.2.2.2.2.2.2.2.1; omega))
      go_wp2_with fail
      refine HJ.out.mono ?_
      rintro e w3 ⟨rfl, h5, h6⟩
      have HA : Hid (OfS bn w.heap.size w W0 w3 ∧ SJ w3 bn (Ln ++ E) ∧ SI w3 a1 (fsP l) ∧ SI w3 b1 (lsP l) ∧ SI w3 a2 (fsP r) ∧ SI w3 b2 (lsP r) ∧ W0.heap.size ≤ a1 ∧ W0.heap.size ≤ b1 ∧ W0.heap.size ≤ a2 ∧ W0.heap.size ≤ b2) := by
        obtain ⟨x1, x2, x3, x4, x5, x6, x7, x8, x9, x10⟩ := HX.out
        have ho := x1.old
        have hk : ∀ z, W0.heap.size ≤ z → some z ≠ some bn := fun z hz e => by have := Option.some.inj e; omega
        exact ⟨x1.by h6, by rw [HT.out.2.2, ← List.append_assoc, ← List.append_assoc]; exact h5, x3.kept h6 (hk _ x7), x4.kept h6 (hk _ x8), x5.kept h6 (hk _ x9), x6.kept h6 (hk _ x10), x7, x8, x9, x10⟩
      have c3 := HA.out.1.cell HC3.out
      have c4 := HA.out.1.cell HC4.out
      have HN1 := Lib.hid (null_any l a w3 (HA.out.1.nd HDL.out))
      have HN2 := Lib.hid (fun W (h : OfS bn w.heap.size w W0 W) => null_any r b W (h.nd HDR.out))
      have HQ1 := Lib.hid (both_any a1 a2 _ _ w3 HA.out.2.2.1 HA.out.2.2.2.2.1)
      have HQ2 := Lib.hid (fun W (h : Below w3.heap.size w3 W) => both_any b2 b1 _ _ W (HA.out.2.2.2.2.2.1.below h HA.out.2.2.2.2.2.1.lt) (HA.out.2.2.2.1.below h HA.out.2.2.2.1.lt))
      clear h5 h6 HJ HX HX1
      have hg3 : g < w3.heap.size := by have := HA.out.1.size; omega
      cases hx : nul l <;> cases hy : nul r
      all_goals
        have HNX := Lib.hid hx
        have HNY := Lib.hid hy
        rw [hx] at HN1
        rw [hy] at HN2
        clear hx hy
        go_wp2_with fail
        refine HN1.out.mono ?_
        rintro e w' ⟨rfl, rfl⟩
        go_wp2_with fail
      · refine (HN2.out _ HA.out.1).mono ?_
        rintro e w' ⟨rfl, rfl⟩
        go_wp2_with fail
        go_ret2
        obtain ⟨x1, x2, x3, x4, x5, x6, x7, x8, x9, x10⟩ := HA.out
        have hz := x1.start.size
        exact ⟨_, _, rfl, by omega, by omega, by rw [HT.out.1, HNX.out]; exact x3, by rw [HT.out.2.1, HNY.out]; exact x6, x2, x1.end_⟩
      · refine (HN2.out _ HA.out.1).mono ?_
        rintro e w' ⟨rfl, rfl⟩
        go_wp2_with fail
        refine (HQ2.out _ (Below.refl _ _)).mono ?_
        rintro e w5 ⟨f, rfl, h5, h6, h7⟩
        have H5 := Lib.hid (And.intro h5 (And.intro h6 h7))
        clear h5 h6 h7
        go_wp2_with fail
        go_ret2
        obtain ⟨h5, h6, h7⟩ := H5.out
        obtain ⟨x1, x2, x3, x4, x5, x6, x7, x8, x9, x10⟩ := HA.out
        have hz := x1.start.size
        have hz2 := x1.size
        exact ⟨_, _, rfl, by omega, by omega, by rw [HT.out.1, HNX.out]; exact x3.below h7 x3.lt, by rw [HT.out.2.1, HNY.out]; exact h6, x2.below h7 x2.lt, (x1.below h7).end_⟩
      · refine HQ1.out.mono ?_
        rintro e w5 ⟨f, rfl, h5, h6, h7⟩
        have H5 := Lib.hid (And.intro h5 (And.intro h6 h7))
        have c4' := (h7.cell (p := ⟨g, 4, none⟩) hg3).trans c4
        clear h5 h6 h7
        go_wp2_with fail
        refine (HN2.out _ (HA.out.1.below H5.out.2.2)).mono ?_
        rintro e w' ⟨rfl, rfl⟩
        go_wp2_with fail
        go_ret2
        obtain ⟨h5, h6, h7⟩ := H5.out
        obtain ⟨x1, x2, x3, x4, x5, x6, x7, x8, x9, x10⟩ := HA.out
        have hz := x1.start.size
        have hz2 := x1.size
        exact ⟨_, _, rfl, by omega, by omega, by rw [HT.out.1, HNX.out]; exact h6, by rw [HT.out.2.1, HNY.out]; exact x6.below h7 x6.lt, x2.below h7 x2.lt, (x1.below h7).end_⟩
      · refine HQ1.out.mono ?_
        rintro e w5 ⟨f, rfl, h5, h6, h7⟩
        have H5 := Lib.hid (And.intro h5 (And.intro h6 h7))
        have c4' := (h7.cell (p := ⟨g, 4, none⟩) hg3).trans c4
        clear h5 h6 h7
        go_wp2_with fail
        refine (HN2.out _ (HA.out.1.below H5.out.2.2)).mono ?_
        rintro e w' ⟨rfl, rfl⟩
        go_wp2_with fail
        refine (HQ2.out _ H5.out.2.2).mono ?_
        rintro e w6 ⟨f2, rfl, h5, h6, h7⟩
        have H6 := Lib.hid (And.intro h5 (And.intro h6 h7))
        clear h5 h6 h7
        go_wp2_with fail
        go_ret2
        obtain ⟨h5, h6, h7⟩ := H5.out
        obtain ⟨h8, h9, h10⟩ := H6.out
        obtain ⟨x1, x2, x3, x4, x5, x6, x7, x8, x9, x10⟩ := HA.out
        have hz := x1.start.size
        have hz2 := x1.size
        have hz3 := h7.size
        have x2l := x2.lt
        exact ⟨_, _, rfl, by omega, by omega, by rw [HT.out.1, HNX.out]; exact h6.below h10 h6.lt, by rw [HT.out.2.1, HNY.out]; exact h9, (x2.below h7 x2l).below h10 (by omega), ((x1.below h7).below h10).end_⟩
end Go.Proofs.YtchhbnnpannnhaaDoor
