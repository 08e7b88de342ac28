/- The document's answer: the lines now and find. No condition. -/
import Derived.Test.YteoofkinmilckaaGreatDoorDeskAa
import Derived.Test.YteoofkinmilckaaGreatDoorDeskL
namespace Go.Proofs.YteoofkinmilckaaGreatDoor
open Go.RowKit Go.Shelf IntWalk
attribute [local go_sem] byte_at str_app
attribute [local go_sem ↓] Go.wp_at_zero Go.wp_at_succ

theorem blk_after {w3 w6 : World} {g : Nat} {a b c x y z : Value} {t : TypeId} (hg : w3.heap[g]? = some (.cells #[a, b, c] t)) (hb : Below (((w3.setCell ⟨g, 0, none⟩ x).setCell ⟨g, 1, none⟩ y).setCell ⟨g, 2, none⟩ z).heap.size (((w3.setCell ⟨g, 0, none⟩ x).setCell ⟨g, 1, none⟩ y).setCell ⟨g, 2, none⟩ z) w6) : w6.heap[g]? = some (.cells #[x, y, z] t) :=
  (hb.block g (by rw [set3_size]; exact (Array.getElem?_eq_some_iff.1 hg).1)).trans (set3 hg)
theorem below_after {w w3 w6 : World} {x y z : Value} (h : Below w.heap.size w w3) (hb : Below (((w3.setCell ⟨w.heap.size + 1, 0, none⟩ x).setCell ⟨w.heap.size + 1, 1, none⟩ y).setCell ⟨w.heap.size + 1, 2, none⟩ z).heap.size (((w3.setCell ⟨w.heap.size + 1, 0, none⟩ x).setCell ⟨w.heap.size + 1, 1, none⟩ y).setCell ⟨w.heap.size + 1, 2, none⟩ z) w6) : Below w.heap.size w w6 :=
  (below_set3' h).trans (hb.mono (by rw [set3_size]; exact h.size))

set_option maxRecDepth 100000 in
set_option maxHeartbeats 8000000 in
theorem ansR_now (s : BS) (l : List UInt8) (w : World) (hs : Smalls s) (hl : l.length ≤ 3000) (hws : cutB 32 l = [[110, 111, 119]]) :
    Calls Tryz.prog 35 #[BV s, S l] w fun e w' => e = .returned (.tuple #[BV ((s, s.now ++ [46])).1, S ((s, s.now ++ [46])).2]) ∧ Below w.heap.size w w' := by
  have HS := Lib.hid hs
  obtain ⟨now, txt, many⟩ := s
  have hnl : now.length ≤ 24 := hs.1
  have htl : txt.length ≤ 4800 := by obtain ⟨_, h2, h3⟩ := hs; simp only [] at h2 h3; omega
  clear hs
  have HCU := Lib.hid (fun W => cutL_any l 32 W (by omega))
  rw [hws] at HCU
  go_enter Tryz.func35, Tryz.ntmps35
  go_wp2_with fail
  refine (HCU.out _).mono ?_
  rintro e w3 ⟨⟨A, k, rfl, hst, hge⟩, hb3⟩
  obtain ⟨hg0, hg1⟩ := two_at (old_at w _ _) (new_at w _ _) hb3
  have HG0 := Lib.hid hg0; have HG1 := Lib.hid hg1
  have HB3 := Lib.hid (below_two hb3)
  obtain ⟨b0, b1, b2, _, _, _⟩ := three_at hg0
  obtain ⟨r0, r1, r2, z0, z1, z2⟩ := three_at hg1
  obtain ⟨ba, oa, rfl, hba, c0⟩ := hst.at_ (k := 0) (by simp)
  have hgb : w.heap.size + 1 < ba := by have h := hge _ rfl; have h2 : w.heap.size + 1 + 1 ≤ ba := (by simpa using h); omega
  have c0 : w3.cell? ⟨ba, oa, none⟩ = some (S [110, 111, 119]) := c0
  rw [show (([[110, 111, 119]] : List (List UInt8)).length) = 1 from rfl]
  clear hst hge hb3 HCU hg0 hg1
  have hov : ¬ 9223372036854775807 < now.length + 1 := by omega
  go_wp2_with fail
  go_region
  all_goals
    go_wp2_with fail
    refine bodyPost_ret (res_cell_tmp rfl _ _ (w.heap.size + 1) 23 _ (0, 0) _ rfl (set3 HG1.out) Tryz.underlying23 rfl (by kernel_rfl)) rfl ?_
    exact ⟨rfl, below_set3' HB3.out.drew⟩

set_option maxRecDepth 100000 in
set_option maxHeartbeats 8000000 in
theorem ansR_find (s : BS) (l : List UInt8) (x : List UInt8) (w : World) (hs : Smalls s) (hl : l.length ≤ 3000) (hws : cutB 32 l = [[102, 105, 110, 100], x]) (hx : ∀ x ∈ cutB 32 l, x.length ≤ 3000) :
    Calls Tryz.prog 35 #[BV s, S l] w fun e w' => e = .returned (.tuple #[BV ((s, findA s.now x)).1, S ((s, findA s.now x)).2]) ∧ Below w.heap.size w w' := by
  have hxl : x.length ≤ 3000 := hx x (by rw [hws]; simp)
  have HFA : Hid (findA s.now x = if findE s.now x = 0 then Lib.decDigits (occ x s.now).length else toldM (findE s.now x)) := Lib.hid rfl
  have HOL := Lib.hid (occ_len x s.now)
  have HWD := Lib.hid (fun W => wordR_any s.now x W)
  have HSD := Lib.hid (fun W (h : s.now.length ≤ 1000) => standsR_any s.now x W h)
  show Calls Tryz.prog 35 #[BV s, S l] w fun e w' => e = .returned (.tuple #[BV s, S (findA s.now x)]) ∧ Below w.heap.size w w'
  generalize findA s.now x = R at *
  generalize findE s.now x = e0 at *
  generalize hocn : (occ x s.now).length = oc at *
  clear hocn hx
  by_cases he : e0 = 0
  · subst he
    have HR : Hid (R = Lib.decDigits oc) := Lib.hid (by rw [HFA.out, if_pos rfl])
    clear HFA
    have HS := Lib.hid hs
    obtain ⟨now, txt, many⟩ := s
    have hnl : now.length ≤ 24 := hs.1
    have htl : txt.length ≤ 4800 := by obtain ⟨_, h2, h3⟩ := hs; simp only [] at h2 h3; omega
    clear hs
    have HCU := Lib.hid (fun W => cutL_any l 32 W (by omega))
    rw [hws] at HCU
    go_enter Tryz.func35, Tryz.ntmps35
    go_wp2_with fail
    refine (HCU.out _).mono ?_
    rintro e w3 ⟨⟨A, k, rfl, hst, hge⟩, hb3⟩
    obtain ⟨hg0, hg1⟩ := two_at (old_at w _ _) (new_at w _ _) hb3
    have HG0 := Lib.hid hg0; have HG1 := Lib.hid hg1
    have HB3 := Lib.hid (below_two hb3)
    obtain ⟨b0, b1, b2, _, _, _⟩ := three_at hg0
    obtain ⟨r0, r1, r2, z0, z1, z2⟩ := three_at hg1
    obtain ⟨ba, oa, rfl, hba, c0⟩ := hst.at_ (k := 0) (by simp)
    obtain ⟨bb1, ob1, eb1, _, c1⟩ := hst.at_ (k := 1) (by simp)
    injection eb1 with eb1
    injection eb1 with eb11 eb12 _
    subst eb11 eb12
    have hgb : w.heap.size + 1 < ba := by have h := hge _ rfl; have h2 : w.heap.size + 1 + 1 ≤ ba := (by simpa using h); omega
    have c0 : w3.cell? ⟨ba, oa, none⟩ = some (S [102, 105, 110, 100]) := c0
    have c1 : w3.cell? ⟨ba, oa + 1, none⟩ = some (S x) := c1
    rw [show (([[102, 105, 110, 100], x] : List (List UInt8)).length) = 2 from rfl]
    clear hst hge hb3 HCU hg0 hg1
    have HDG := Lib.hid (fun W => digits_gen oc W (by have := HOL.out; omega))
    have HSD2 := Lib.hid (fun W => HSD.out W (by omega))
    clear HSD
    go_wp2_with fail
    go_region_with (refine (HWD.out _).mono ?_; rintro e w' ⟨rfl, rfl⟩)
    all_goals
      go_wp2_with fail
      go_region_with (first
        | (refine (HSD2.out _).mono ?_; rintro e w6 ⟨⟨A6, k6, rfl⟩, hb6⟩; try (have hg6 := (Below.block hb6 (w.heap.size + 1) (Array.getElem?_eq_some_iff.1 HG1.out).1).trans HG1.out; have hg5 := (Below.block hb6 w.heap.size (Array.getElem?_eq_some_iff.1 HG0.out).1).trans HG0.out; obtain ⟨t0, t1, t2, t3, t4, t5⟩ := three_at hg6; obtain ⟨u0, u1, u2, u3, u4, u5⟩ := three_at hg5))
        | (refine (HDG.out _).mono ?_; rintro e w' ⟨rfl, rfl⟩))
      all_goals
        go_wp2_with fail
        first
          | (refine bodyPost_ret (res_cell_tmp rfl _ _ (w.heap.size + 1) 23 _ (0, 0) _ rfl (set3 hg6) Tryz.underlying23 rfl (by kernel_rfl)) rfl ?_
             exact ⟨by rw [HR.out]; rfl, below_set3' ((HB3.out.drew.drew).trans (Below.mono hb6 HB3.out.size))⟩)
          | (refine bodyPost_ret (res_cell_tmp rfl _ _ (w.heap.size + 1) 23 _ (0, 0) _ rfl (blk_after HG1.out hb6) Tryz.underlying23 rfl (by kernel_rfl)) rfl ?_
             exact ⟨by rw [HR.out]; rfl, below_after HB3.out hb6⟩)
  · have HR : Hid (R = toldM e0) := Lib.hid (by rw [HFA.out, if_neg he])
    have q1 : (e0 == 0) = false := by simpa using he
    have q2 : (e0 != 0) = true := by simpa using he
    have HCD := Lib.hid (fun W => called_any e0 W)
    clear HFA HSD he
    have HS := Lib.hid hs
    obtain ⟨now, txt, many⟩ := s
    have hnl : now.length ≤ 24 := hs.1
    have htl : txt.length ≤ 4800 := by obtain ⟨_, h2, h3⟩ := hs; simp only [] at h2 h3; omega
    clear hs
    have HCU := Lib.hid (fun W => cutL_any l 32 W (by omega))
    rw [hws] at HCU
    go_enter Tryz.func35, Tryz.ntmps35
    go_wp2_with fail
    refine (HCU.out _).mono ?_
    rintro e w3 ⟨⟨A, k, rfl, hst, hge⟩, hb3⟩
    obtain ⟨hg0, hg1⟩ := two_at (old_at w _ _) (new_at w _ _) hb3
    have HG0 := Lib.hid hg0; have HG1 := Lib.hid hg1
    have HB3 := Lib.hid (below_two hb3)
    obtain ⟨b0, b1, b2, _, _, _⟩ := three_at hg0
    obtain ⟨r0, r1, r2, z0, z1, z2⟩ := three_at hg1
    obtain ⟨ba, oa, rfl, hba, c0⟩ := hst.at_ (k := 0) (by simp)
    obtain ⟨bb1, ob1, eb1, _, c1⟩ := hst.at_ (k := 1) (by simp)
    injection eb1 with eb1
    injection eb1 with eb11 eb12 _
    subst eb11 eb12
    have hgb : w.heap.size + 1 < ba := by have h := hge _ rfl; have h2 : w.heap.size + 1 + 1 ≤ ba := (by simpa using h); omega
    have c0 : w3.cell? ⟨ba, oa, none⟩ = some (S [102, 105, 110, 100]) := c0
    have c1 : w3.cell? ⟨ba, oa + 1, none⟩ = some (S x) := c1
    rw [show (([[102, 105, 110, 100], x] : List (List UInt8)).length) = 2 from rfl]
    clear hst hge hb3 HCU hg0 hg1
    go_wp2_with fail
    go_region_with (refine (HWD.out _).mono ?_; rintro e w' ⟨rfl, rfl⟩)
    all_goals
      go_wp2_with fail
      go_region_with (refine (HCD.out _).mono ?_; rintro e w' ⟨rfl, rfl⟩)
      all_goals
        go_wp2_with fail
        refine bodyPost_ret (res_cell_tmp rfl _ _ (w.heap.size + 1) 23 _ (0, 0) _ rfl (set3 HG1.out) Tryz.underlying23 rfl (by kernel_rfl)) rfl ?_
        first | exact ⟨by rw [HR.out]; rfl, below_set3' HB3.out.drew.drew⟩ | exact ⟨by rw [HR.out]; rfl, below_set3' HB3.out.drew⟩ | exact ⟨by rw [HR.out]; rfl, below_set3' HB3.out⟩
end Go.Proofs.YteoofkinmilckaaGreatDoor
