/- The document's answer: the line put. No condition. -/
import Derived.Test.YteoofkinmilckaaGreatDoorDeskAa
import Derived.Test.YteoofkinmilckaaGreatDoorDeskL
namespace Go.Proofs.YteoofkinmilckaaGreatDoor
open Go.RowKit Go.Shelf IntWalk
attribute [local go_sem] byte_at str_app
attribute [local go_sem ↓] Go.wp_at_zero Go.wp_at_succ

theorem set_three {w : World} {g h : Nat} {o : Obj} (hh : h ≠ g) (e : w.heap[h]? = some o) (x y z : Value) : (((w.setCell ⟨g, 0, none⟩ x).setCell ⟨g, 1, none⟩ y).setCell ⟨g, 2, none⟩ z).heap[h]? = some o :=
  ((Below.heap_setCell _ _ _ h hh).trans ((Below.heap_setCell _ _ _ h hh).trans (Below.heap_setCell _ _ _ h hh))).trans e
theorem below_tri {w w6 : World} {B g : Nat} {x y z : Value} (h : Below B w w6) (hg : B ≤ g) : Below B w (((w6.setCell ⟨g, 0, none⟩ x).setCell ⟨g, 1, none⟩ y).setCell ⟨g, 2, none⟩ z) :=
  ((h.setCell (p := ⟨g, 0, none⟩) hg _).setCell (p := ⟨g, 1, none⟩) hg _).setCell (p := ⟨g, 2, none⟩) hg _
/-- What is in memory behind a change of the book: the result's block, the new book's. -/
def AR (w : World) (g : Nat) (s' : BS) (W : World) : Prop := w.heap.size + 1 < g ∧ W.heap[w.heap.size + 1]? = some (bObj eBS) ∧ Below w.heap.size w W ∧ W.heap[g]? = some (bObj s')
theorem AR.one {w w3 w6 : World} {s' : BS} (h1 : w3.heap[w.heap.size + 1]? = some (bObj eBS)) (hb : Below w.heap.size w w3) (h6 : Below w3.heap.size w3 w6) : AR w w6.heap.size s' (w6.alloc (bObj s')) := by
  have hl := (Array.getElem?_eq_some_iff.1 h1).1
  have hz := h6.size
  refine ⟨by omega, ?_, (hb.trans (h6.mono hb.size)).alloc (Nat.le_trans hb.size hz) _, heap_alloc_new _ _⟩
  rw [Lib.alloc_old _ _ _ (by omega), h6.block _ hl, h1]
theorem AR.two {w w3 w6 : World} {s' : BS} (h1 : w3.heap[w.heap.size + 1]? = some (bObj eBS)) (hb : Below w.heap.size w w3) (h6 : Below (w3.alloc (bObj eBS)).heap.size (w3.alloc (bObj eBS)) w6) :
    AR w w3.heap.size s' (((w6.setCell ⟨w3.heap.size, 0, none⟩ (S s'.now)).setCell ⟨w3.heap.size, 1, none⟩ (S s'.txt)).setCell ⟨w3.heap.size, 2, none⟩ (.int .i64 (s'.many : Int))) := by
  have hl := (Array.getElem?_eq_some_iff.1 h1).1
  have h8 : w6.heap[w3.heap.size]? = some (bObj eBS) := (h6.block w3.heap.size (by simp)).trans (heap_alloc_new w3 _)
  have hb6 : Below w.heap.size w w6 := (hb.alloc hb.size (bObj eBS)).trans (h6.mono (by simp; have := hb.size; omega))
  refine ⟨hl, set_three (by omega) ?_ _ _ _, below_tri hb6 hb.size, set3 h8⟩
  rw [h6.block _ (by simp; omega), Lib.alloc_old _ _ _ hl, h1]

set_option maxRecDepth 100000 in
set_option maxHeartbeats 8000000 in
theorem ansR_put (s : BS) (l x y : List UInt8) (w : World) (hs : Smalls s) (hl : l.length ≤ 3000) (hws : cutB 32 l = [[112, 117, 116], x, y]) (hx : ∀ x ∈ cutB 32 l, x.length ≤ 3000) :
    Calls Tryz.prog 35 #[BV s, S l] w fun e w' => e = .returned (.tuple #[BV (ansW s [[112, 117, 116], x, y]).1, S (ansW s [[112, 117, 116], x, y]).2]) ∧ Below w.heap.size w w' := by
  have hxl : x.length ≤ 3000 := hx x (by rw [hws]; simp)
  have hyl : y.length ≤ 3000 := hx y (by rw [hws]; simp)
  have HR : Hid (ansW s [[112, 117, 116], x, y] = match numD x with
    | none => (s, badM)
    | some n => ((putS s n y).2, toldM (putS s n y).1)) := Lib.hid rfl
  have HND := Lib.hid (fun W => numberR_any x W (by omega))
  have HPT := Lib.hid (fun (n : Nat) W => putR_any s y (n : Int) W hs (by omega))
  have HNX : Hid (numD x = if x.length ≤ 7 then numO x else none) := Lib.hid rfl
  generalize ansW s [[112, 117, 116], x, y] = R at *
  generalize numD x = nx at *
  have HS := Lib.hid hs
  obtain ⟨now, txt, many⟩ := s
  have hnl : now.length ≤ 24 := hs.1
  have htl : txt.length ≤ 4800 := by obtain ⟨_, h2, h3⟩ := hs; simp only [] at h2 h3; omega
  clear hs
  have HCU := Lib.hid (fun W => cutL_any l 32 W (by omega))
  rw [hws] at HCU
  go_enter Tryz.func35, Tryz.ntmps35
  go_wp2_with fail
  refine (HCU.out _).mono ?_
  rintro e w3 ⟨⟨A, k, rfl, hst, hge⟩, hb3⟩
  obtain ⟨hg0, hg1⟩ := two_at (old_at w _ _) (new_at w _ _) hb3
  have HG0 := Lib.hid hg0; have HG1 := Lib.hid hg1
  have HB3 := Lib.hid (below_two hb3)
  obtain ⟨b0, b1, b2, _, _, _⟩ := three_at hg0
  obtain ⟨r0, r1, r2, z0, z1, z2⟩ := three_at hg1
  obtain ⟨ba, oa, rfl, hba, c0⟩ := hst.at_ (k := 0) (by simp)
  obtain ⟨bb1, ob1, eb1, _, c1⟩ := hst.at_ (k := 1) (by simp)
  injection eb1 with eb1
  injection eb1 with eb11 eb12 _
  subst eb11 eb12
  obtain ⟨bb2, ob2, eb2, _, c2⟩ := hst.at_ (k := 2) (by simp)
  injection eb2 with eb2
  injection eb2 with eb21 eb22 _
  subst eb21 eb22
  have hgb : w.heap.size + 1 < ba := by have h := hge _ rfl; have h2 : w.heap.size + 1 + 1 ≤ ba := (by simpa using h); omega
  replace c0 : w3.cell? ⟨ba, oa, none⟩ = some (S [112, 117, 116]) := c0
  replace c1 : w3.cell? ⟨ba, oa + 1, none⟩ = some (S x) := c1
  replace c2 : w3.cell? ⟨ba, oa + 2, none⟩ = some (S y) := c2
  rw [show (([[112, 117, 116], x, y] : List (List UInt8)).length) = 3 from rfl]
  have hw0 : w.heap.size < w3.heap.size := (Array.getElem?_eq_some_iff.1 hg0).1
  have hw1 : w.heap.size + 1 < w3.heap.size := (Array.getElem?_eq_some_iff.1 hg1).1
  clear hst hge hb3 HCU hg0 hg1
  go_wp2_with fail
  refine (HND.out _).mono ?_
  rintro e w' ⟨⟨v, rfl, hv⟩, rfl⟩
  clear HND
  cases hno : numO x with
  | none =>
    have HR2 : Hid (R = (⟨now, txt, many⟩, badM)) := Lib.hid (by
      have h := HNX.out
      rw [hno, show (if x.length ≤ 7 then (none : Option Nat) else none) = none by split <;> rfl] at h
      rw [HR.out, h])
    clear HR HNX hno hv HPT
    rw [show (none : Option Nat).isSome = false from rfl]
    go_wp2_with fail
    refine bodyPost_ret (res_cell_tmp rfl _ _ (w.heap.size + 1) 23 _ (0, 0) _ rfl (set3 HG1.out) Tryz.underlying23 rfl (by kernel_rfl)) rfl ?_
    exact ⟨by rw [HR2.out]; rfl, below_set3' HB3.out⟩
  | some n =>
    obtain rfl := hv n hno
    rw [show (some n).isSome = true from rfl]
    by_cases h7 : x.length ≤ 7
    rotate_left
    · have HR2 : Hid (R = (⟨now, txt, many⟩, badM)) := Lib.hid (by rw [HR.out, HNX.out, if_neg h7])
      have p7 : (7 : Int) < (x.length : Int) := by omega
      clear HR HNX hno hv HPT h7
      go_wp2_with fail
      refine bodyPost_ret (res_cell_tmp rfl _ _ (w.heap.size + 1) 23 _ (0, 0) _ rfl (set3 HG1.out) Tryz.underlying23 rfl (by kernel_rfl)) rfl ?_
      exact ⟨by rw [HR2.out]; rfl, below_set3' HB3.out⟩
    have HR2 : Hid (R = ((putS ⟨now, txt, many⟩ n y).2, toldM (putS ⟨now, txt, many⟩ n y).1)) := Lib.hid (by rw [HR.out, HNX.out, if_pos h7, hno])
    have p7 : ¬ (7 : Int) < (x.length : Int) := by omega
    have HPN := Lib.hid (HPT.out n)
    generalize putS ⟨now, txt, many⟩ n y = q at *
    obtain ⟨e0, s'⟩ := q
    have HCD := Lib.hid (fun W => called_any e0 W)
    clear HR HNX hno hv HPT h7
    go_upto_region 13 with fail
    go_cut [10, 11] from 22 to 100 (fun pv ev wx => ∃ g, pv = .pointer (some ⟨g, 0, none⟩) ∧ ev = .int .i64 e0 ∧ Hid (AR w g s' wx))
    case first =>
      go_region_with (refine (HPN.out _).mono ?_; rintro e w6 ⟨rfl, hb6⟩; try (have hg8 : w6.heap[w3.heap.size]? = some (bObj eBS) := (Below.block hb6 w3.heap.size (by simp)).trans (heap_alloc_new w3 _); obtain ⟨t0, t1, t2, t3, t4, t5⟩ := three_at hg8))
      all_goals
        first
          | (have hO6 := Lib.hid (AR.one (s' := s') HG1.out HB3.out (show Below w3.heap.size w3 w6 from (Below.drew (Below.refl _ w3)).trans hb6))
             clear hb6
             go_wp2_with fail
             go_meet
             exact ⟨_, rfl, rfl, hO6⟩)
          | (have hO6 := Lib.hid (AR.two (s' := s') HG1.out HB3.out (show Below (w3.alloc (bObj eBS)).heap.size (w3.alloc (bObj eBS)) w6 from (Below.drew (Below.refl _ _)).trans hb6))
             clear hb6
             go_wp2_with fail
             go_meet
             exact ⟨_, rfl, rfl, hO6⟩)
    case rest =>
      obtain ⟨g, rfl, rfl, HO8⟩ := hcut
      clear b0 b1 b2 r0 r1 r2 z0 z1 z2 c0 c1 c2 HPN p7 HG0 HG1 HB3 hba hgb hw0 hw1
      obtain ⟨hgt, hrs, hB, hbk⟩ := HO8.out
      obtain ⟨r0, r1, r2, z0, z1, z2⟩ := three_at hrs
      obtain ⟨b0, b1, b2, _, _, _⟩ := three_at hbk
      have HRS := Lib.hid hrs; have HB := Lib.hid hB
      clear hrs hB hbk HO8
      go_wp2_with fail
      go_region_with (refine (HCD.out _).mono ?_; rintro e w' ⟨rfl, rfl⟩)
      all_goals
        go_wp2_with fail
        refine bodyPost_ret (res_cell_tmp rfl _ _ (w.heap.size + 1) 23 _ (0, 0) _ rfl (set3 HRS.out) Tryz.underlying23 rfl (by kernel_rfl)) rfl ?_
        first | exact ⟨by rw [HR2.out]; rfl, below_set3' HB.out.drew⟩ | exact ⟨by rw [HR2.out]; rfl, below_set3' HB.out⟩
end Go.Proofs.YteoofkinmilckaaGreatDoor
