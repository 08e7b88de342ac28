/- nfa.of at one or the other, one behind the other, so many times. No condition. -/
import Derived.Test.YtchhbnnpannnhaaDoorNfD
import Derived.Deep.Cut
namespace Go.Proofs.YtchhbnnpannnhaaDoor
open Go.RowKit Go.Maps
set_option linter.unusedVariables false

/-- The world as it stands in nfa.of: next's box; of what lay before but the pairs have turned. -/
structure OfS (bn bx : Nat) (w W0 W : World) : Prop where
  start : Below w.heap.size w W0
  grown : W0.grownBy W (some bn)
  map : ∀ o t f, W0.heap[bn]? ≠ some (.cells o t f)
  box : W0.cell? ⟨bx, 0, none⟩ = some (.map (some bn))
  old : bn < w.heap.size
theorem OfS.start' {bn bx : Nat} {w W0 : World} {L : List (Nat × Nat)} (hb : W0.cell? ⟨bx, 0, none⟩ = some (.map (some bn))) (h : SJ W0 bn L) (hB : Below w.heap.size w W0) (ho : bn < w.heap.size) : OfS bn bx w W0 W0 := ⟨hB, World.grownBy.refl _ _, h.cells, hb, ho⟩
theorem OfS.cell {bn bx : Nat} {w W0 W : World} (h : OfS bn bx w W0 W) {a : Addr} {v : Value} (hc : W0.cell? a = some v) : W.cell? a = some v := by
  refine h.grown.cell hc fun e => ?_
  have e := Option.some.inj e
  unfold World.cell? at hc
  have := h.map
  rw [e] at hc
  revert hc
  cases hb : W0.heap[bn]? with
  | none => simp
  | some o =>
    cases o <;> simp_all
theorem OfS.nd {bn bx : Nat} {w W0 W : World} (h : OfS bn bx w W0 W) {t : Pt} {q : Nat} (hn : Nd W0 t q) : Nd W t q := hn.grown h.grown h.map
theorem OfS.drew {bn bx : Nat} {w W0 W : World} (h : OfS bn bx w W0 W) : OfS bn bx w W0 W.drew := ⟨h.start, grown_drew h.grown, h.map, h.box, h.old⟩
theorem OfS.by {bn bx : Nat} {w W0 W W' : World} (h : OfS bn bx w W0 W) (hg : W.grownBy W' (some bn)) : OfS bn bx w W0 W' := ⟨h.start, h.grown.trans hg, h.map, h.box, h.old⟩
theorem OfS.below {bn bx : Nat} {w W0 W W' : World} (h : OfS bn bx w W0 W) (hb : Below W.heap.size W W') : OfS bn bx w W0 W' := h.by (grown_of_below hb (Nat.le_refl _) _)
theorem OfS.size {bn bx : Nat} {w W0 W : World} (h : OfS bn bx w W0 W) : W0.heap.size ≤ W.heap.size := h.grown.size
theorem OfS.end_ {bn bx : Nat} {w W0 W : World} (h : OfS bn bx w W0 W) : w.grownBy W (some bn) := (grown_of_below h.start (Nat.le_refl _) (some bn)).trans h.grown

set_option maxRecDepth 100000 in
set_option maxHeartbeats 4000000 in
theorem of_alt (l r : Pt) (ihl : OfC l) (ihr : OfC r) : OfC (.alt l r) := by
  intro g bn Ln w h hn hsm
  have k0 := h.kind
  obtain ⟨a, b, h0, h1, h2⟩ := h
  have k3 : w.cell? ⟨g, 3, none⟩ = some (.pointer (some ⟨a, 0, none⟩)) := by rw [cell_of_row w g 3 _ _ (0, 0) h0]; rfl
  have k4 : w.cell? ⟨g, 4, none⟩ = some (.pointer (some ⟨b, 0, none⟩)) := by rw [cell_of_row w g 4 _ _ (0, 0) h0]; rfl
  have hgl : g < w.heap.size := (Array.getElem?_eq_some_iff.1 h0).1
  have kb : ∀ o, (w.alloc o).cell? ⟨g, 0, none⟩ = some (.int .i64 3) := fun o => (World.cell?_of_block (w := w) (Below.heap_alloc _ _ _ hgl)).trans k0
  have kk3 : ∀ o, (w.alloc o).cell? ⟨g, 3, none⟩ = some (.pointer (some ⟨a, 0, none⟩)) := fun o => (World.cell?_of_block (w := w) (Below.heap_alloc _ _ _ hgl)).trans k3
  have kk4 : ∀ o, (w.alloc o).cell? ⟨g, 4, none⟩ = some (.pointer (some ⟨b, 0, none⟩)) := fun o => (World.cell?_of_block (w := w) (Below.heap_alloc _ _ _ hgl)).trans k4
  have hbelow : ∀ o, Below w.heap.size w (w.alloc o) := fun o => (Below.refl _ w).alloc (Nat.le_refl _) o
  have HL := Lib.hid ihl
  have HR := Lib.hid ihr
  have HS := Lib.hid (show Sm 64 l ∧ Sm 64 r from hsm)
  have HT : Hid (fsP (.alt l r) = fsP l ++ fsP r ∧ lsP (.alt l r) = lsP l ++ lsP r ∧ prP (.alt l r) = prP l ++ prP r) := Lib.hid ⟨rfl, rfl, rfl⟩
  have hbx : (w.alloc (.cells #[.map (some bn)] 50)).cell? ⟨w.heap.size, 0, none⟩ = some (.map (some bn)) := by rw [cell_of_row _ w.heap.size 0 _ _ (0, 0) (heap_alloc_new w _)]; rfl
  have HN := Lib.hid hn
  have HD := Lib.hid (And.intro h1 h2)
  clear ihl ihr hsm hn h0 h1 h2 k0 k3 k4
  generalize fsP (.alt l r) = F at *
  generalize lsP (.alt l r) = G at *
  generalize prP (.alt l r) = E at *
  go_enter Tryd.func16, Tryd.ntmps16
  go_upto_region 6 with fail
  have c0 := kk3 (.cells #[.map (some bn)] 50)
  have c4 := kk4 (.cells #[.map (some bn)] 50)
  have HB0 := Lib.hid (hbelow (.cells #[.map (some bn)] 50))
  have hsz : (w.alloc (.cells #[.map (some bn)] 50)).heap.size = w.heap.size + 1 := by simp
  have cb := hbx
  clear kb kk3 kk4 hbelow hbx
  generalize w.alloc (.cells #[.map (some bn)] 50) = W0 at *
  have HW0 : Hid (OfS bn w.heap.size w W0 W0 ∧ SJ W0 bn Ln) := Lib.hid ⟨OfS.start' cb (HN.out.below HB0.out HN.out.lt) HB0.out HN.out.lt, HN.out.below HB0.out HN.out.lt⟩
  have HDL := Lib.hid (HD.out.1.below HB0.out)
  have HDR := Lib.hid (HD.out.2.below HB0.out)
  have HC4 := Lib.hid c4
  have cW := c0
  clear HN HD HB0 c4
  go_cut [7, 8] from 38 to 122 (fun f1 l1 wx => ∃ a1 b1, f1 = .map (some a1) ∧ l1 = .map (some b1) ∧ Hid (OfS bn w.heap.size w W0 wx ∧ SJ wx bn (Ln ++ prP l) ∧ SI wx a1 (fsP l) ∧ SI wx b1 (lsP l) ∧ W0.heap.size ≤ a1 ∧ W0.heap.size ≤ b1))
  case first =>
    go_region_with (refine (HL.out a bn Ln _ (HW0.out.1.drew.nd HDL.out) (HW0.out.2.block rfl) HS.out.1).mono ?_; rintro e w1 ⟨a1, b1, rfl, h5, h6, h7, h8, h9, h10⟩; have HX : Hid (OfS bn w.heap.size w W0 w1 ∧ SJ w1 bn (Ln ++ prP l) ∧ SI w1 a1 (fsP l) ∧ SI w1 b1 (lsP l) ∧ W0.heap.size ≤ a1 ∧ W0.heap.size ≤ b1) := Lib.hid ⟨HW0.out.1.drew.by h10, h9, h7, h8, h5, h6⟩; clear h5 h6 h7 h8 h9 h10)
    all_goals
      go_wp2_with fail
      go_meet
      exact ⟨_, _, rfl, rfl, HX⟩
  case rest =>
    obtain ⟨a1, b1, rfl, rfl, HX⟩ := hcut
    have c4 := HX.out.1.cell HC4.out
    have cx := HX.out.1.cell cb
    clear c0 cW cb
    go_upto_region 7 with fail
    go_cut [9, 10] from 47 to 122 (fun f1 l1 wx => ∃ a2 b2, f1 = .map (some a2) ∧ l1 = .map (some b2) ∧ Hid (OfS bn w.heap.size w W0 wx ∧ SJ wx bn (Ln ++ prP l ++ prP r) ∧ SI wx a1 (fsP l) ∧ SI wx b1 (lsP l) ∧ SI wx a2 (fsP r) ∧ SI wx b2 (lsP r)))
    case first =>
      have ha : a1 ≠ bn ∧ b1 ≠ bn := by have h := HX.out; have := h.1.old; have := h.1.start.size; exact ⟨by have := h.2.2.2.2.1; omega, by have := h.2.2.2.2.2; omega⟩
      go_region_with (refine (HR.out b bn _ _ (HX.out.1.drew.nd HDR.out) (HX.out.2.1.block rfl) HS.out.2).mono ?_; rintro e w1 ⟨a2, b2, rfl, h5, h6, h7, h8, h9, h10⟩; have HY : Hid (OfS bn w.heap.size w W0 w1 ∧ SJ w1 bn (Ln ++ prP l ++ prP r) ∧ SI w1 a1 (fsP l) ∧ SI w1 b1 (lsP l) ∧ SI w1 a2 (fsP r) ∧ SI w1 b2 (lsP r)) := Lib.hid ⟨HX.out.1.drew.by h10, h9, MSet.kept (w := wc.drew) (HX.out.2.2.1.block rfl) h10 (fun e => ha.1 (Option.some.inj e)), MSet.kept (w := wc.drew) (HX.out.2.2.2.1.block rfl) h10 (fun e => ha.2 (Option.some.inj e)), h7, h8⟩; clear h5 h6 h7 h8 h9 h10)
      all_goals
        go_wp2_with fail
        go_meet
        exact ⟨_, _, rfl, rfl, HY⟩
    case rest =>
      have HX1 := HX
      clear HX c4 cx
      obtain ⟨a2, b2, rfl, rfl, HX⟩ := hcut
      have HB1 := Lib.hid (both_any a1 a2 _ _ _ HX.out.2.2.1 HX.out.2.2.2.2.1)
      go_wp2_with fail
      refine HB1.out.mono ?_
      rintro e w3 ⟨f, rfl, h5, h6, h7⟩
      have HB2 := Lib.hid (both_any b1 b2 _ _ w3 (HX.out.2.2.2.1.below h7 HX.out.2.2.2.1.lt) (HX.out.2.2.2.2.2.below h7 HX.out.2.2.2.2.2.lt))
      have H5 := Lib.hid (And.intro h5 (And.intro h6 h7))
      clear h5 h6 h7
      go_wp2_with fail
      refine HB2.out.mono ?_
      rintro e w4 ⟨f2, rfl, h5, h6, h7⟩
      have H6 := Lib.hid (And.intro h5 (And.intro h6 h7))
      clear h5 h6 h7
      go_wp2_with fail
      go_ret2
      obtain ⟨h5, h6, h7⟩ := H5.out
      obtain ⟨h8, h9, h10⟩ := H6.out
      have hz := HX.out.1.size
      have hz2 := HX.out.1.start.size
      have hz3 := h7.size
      have hs := HX.out.1.old
      refine ⟨f, f2, rfl, by omega, by omega, ?_, ?_, ?_, ((HX.out.1.below h7).below h10).end_⟩
      · rw [HT.out.1]; exact h6.below h10 h6.lt
      · rw [HT.out.2.1]; exact h9
      · rw [HT.out.2.2, ← List.append_assoc]; exact (HX.out.2.1.below h7 HX.out.2.1.lt).below h10 (by omega)
end Go.Proofs.YtchhbnnpannnhaaDoor
