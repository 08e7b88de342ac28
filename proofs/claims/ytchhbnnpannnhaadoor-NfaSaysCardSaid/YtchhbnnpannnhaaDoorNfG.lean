/- nfa.of at so many times; at any tree. No condition. -/
import Derived.Test.YtchhbnnpannnhaaDoorNfF
namespace Go.Proofs.YtchhbnnpannnhaaDoor
open Go.RowKit Go.Maps
set_option linter.unusedVariables false

set_option maxRecDepth 100000 in
set_option maxHeartbeats 4000000 in
theorem of_str (l : Pt) (ihl : OfC l) : OfC (.str l) := by
  intro g bn Ln w h hn hsm
  have k0 := h.kind
  obtain ⟨a, h0, h1⟩ := h
  have k3 : w.cell? ⟨g, 3, none⟩ = some (.pointer (some ⟨a, 0, none⟩)) := by rw [cell_of_row w g 3 _ _ (0, 0) h0]; rfl
  have hgl : g < w.heap.size := (Array.getElem?_eq_some_iff.1 h0).1
  have kb : ∀ o, (w.alloc o).cell? ⟨g, 0, none⟩ = some (.int .i64 5) := fun o => (World.cell?_of_block (w := w) (Below.heap_alloc _ _ _ hgl)).trans k0
  have kk3 : ∀ o, (w.alloc o).cell? ⟨g, 3, none⟩ = some (.pointer (some ⟨a, 0, none⟩)) := fun o => (World.cell?_of_block (w := w) (Below.heap_alloc _ _ _ hgl)).trans k3
  have hbelow : ∀ o, Below w.heap.size w (w.alloc o) := fun o => (Below.refl _ w).alloc (Nat.le_refl _) o
  have HL := Lib.hid ihl
  have HS := Lib.hid (show Sm 64 l from hsm)
  have HT : Hid (fsP (.str l) = fsP l ∧ lsP (.str l) = lsP l ∧ prP (.str l) = prP l ++ crs (lsP l) (fsP l)) := Lib.hid ⟨rfl, rfl, rfl⟩
  have hbx : (w.alloc (.cells #[.map (some bn)] 50)).cell? ⟨w.heap.size, 0, none⟩ = some (.map (some bn)) := by rw [cell_of_row _ w.heap.size 0 _ _ (0, 0) (heap_alloc_new w _)]; rfl
  have HN := Lib.hid hn
  have HD := Lib.hid h1
  clear ihl hsm hn h0 h1 k0 k3
  generalize fsP (.str l) = F at *
  generalize lsP (.str l) = G at *
  generalize prP (.str l) = E at *
  go_enter Tryd.func16, Tryd.ntmps16
  go_upto_region 19 with fail
  have c0 := kk3 (.cells #[.map (some bn)] 50)
  have HB0 := Lib.hid (hbelow (.cells #[.map (some bn)] 50))
  have hsz : (w.alloc (.cells #[.map (some bn)] 50)).heap.size = w.heap.size + 1 := by simp
  have cb := hbx
  clear kb kk3 hbelow hbx
  generalize w.alloc (.cells #[.map (some bn)] 50) = W0 at *
  have HW0 : Hid (OfS bn w.heap.size w W0 W0 ∧ SJ W0 bn Ln) := Lib.hid ⟨OfS.start' cb (HN.out.below HB0.out HN.out.lt) HB0.out HN.out.lt, HN.out.below HB0.out HN.out.lt⟩
  have HDL := Lib.hid (HD.out.below HB0.out)
  have cW := c0
  have HCB := Lib.hid cb
  clear HN HD HB0
  go_cut [15, 16] from 106 to 122 (fun f1 l1 wx => ∃ a1 b1, f1 = .map (some a1) ∧ l1 = .map (some b1) ∧ Hid (OfS bn w.heap.size w W0 wx ∧ SJ wx bn (Ln ++ prP l) ∧ SI wx a1 (fsP l) ∧ SI wx b1 (lsP l) ∧ W0.heap.size ≤ a1 ∧ W0.heap.size ≤ b1))
  case first =>
    go_region_with (refine (HL.out a bn Ln _ (HW0.out.1.drew.nd HDL.out) (HW0.out.2.block rfl) HS.out).mono ?_; rintro e w1 ⟨a1, b1, rfl, h5, h6, h7, h8, h9, h10⟩; have HX : Hid (OfS bn w.heap.size w W0 w1 ∧ SJ w1 bn (Ln ++ prP l) ∧ SI w1 a1 (fsP l) ∧ SI w1 b1 (lsP l) ∧ W0.heap.size ≤ a1 ∧ W0.heap.size ≤ b1) := Lib.hid ⟨HW0.out.1.drew.by h10, h9, h7, h8, h5, h6⟩; clear h5 h6 h7 h8 h9 h10)
    all_goals
      go_wp2_with fail
      go_meet
      exact ⟨_, _, rfl, rfl, HX⟩
  case rest =>
    obtain ⟨a1, b1, rfl, rfl, HX⟩ := hcut
    have HJ := Lib.hid (join_any b1 a1 bn w.heap.size _ _ _ wc HX.out.2.2.2.1 HX.out.2.2.1 HX.out.2.1 (HX.out.1.cell HCB.out) (by have := HX.out.1.size; omega) (by have := HX.out.1.old; omega) (by have := HX.out.1.old; have := HX.out.2.2.2.2.2; omega) (by have := HX.out.1.old; have := HX.out.2.2.2.2.1; omega))
    clear c0 cW cb
    go_wp2_with fail
    refine HJ.out.mono ?_
    rintro e w3 ⟨rfl, h5, h6⟩
    have H5 := Lib.hid (And.intro h5 h6)
    clear h5 h6
    go_wp2_with fail
    go_ret2
    obtain ⟨h5, h6⟩ := H5.out
    obtain ⟨x1, x2, x3, x4, x5, x6⟩ := HX.out
    have hz := x1.start.size
    have ho := x1.old
    have hk : ∀ z, W0.heap.size ≤ z → some z ≠ some bn := fun z hz e => by have := Option.some.inj e; omega
    exact ⟨_, _, rfl, by omega, by omega, by rw [HT.out.1]; exact x3.kept h6 (hk _ x5), by rw [HT.out.2.1]; exact x4.kept h6 (hk _ x6), by rw [HT.out.2.2, ← List.append_assoc]; exact h5, (x1.by h6).end_⟩
/-- nfa.of, of any tree. -/
theorem of_any : ∀ t : Pt, OfC t
  | .non => of_emp _ (.inr rfl)
  | .emp => of_emp _ (.inl rfl)
  | .sgn c k => of_sgn c k
  | .alt l r => of_alt l r (of_any l) (of_any r)
  | .seq l r => of_seq l r (of_any l) (of_any r)
  | .str l => of_str l (of_any l)
end Go.Proofs.YtchhbnnpannnhaaDoor
