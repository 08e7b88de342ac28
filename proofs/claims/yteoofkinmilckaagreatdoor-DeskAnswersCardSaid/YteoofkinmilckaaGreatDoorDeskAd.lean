/- The document's answer: lines that are no words as wanted, cut, crash. No condition. -/
import Derived.Test.YteoofkinmilckaaGreatDoorDeskAc
namespace Go.Proofs.YteoofkinmilckaaGreatDoor
open Go.RowKit Go.Shelf IntWalk
attribute [local go_sem] byte_at str_app
attribute [local go_sem ↓] Go.wp_at_zero Go.wp_at_succ

set_option maxRecDepth 100000 in
set_option maxHeartbeats 8000000 in
theorem ansR_no_now (s : BS) (l a : List UInt8) (r : List (List UInt8)) (R : BS × List UInt8) (w : World) (hs : Smalls s) (hl : l.length ≤ 3000) (hws : cutB 32 l = a :: r) (hx : ∀ x ∈ cutB 32 l, x.length ≤ 3000)
    (HF : Hid (∀ i, i < r.length → numD (li r i) = none → R = (s, badM)))
    (ha : a = [110, 111, 119]) (hn : r.length ≠ 0) (HO : Hid (R = (s, badM))) :
    Calls Tryz.prog 35 #[BV s, S l] w fun e w' => e = .returned (.tuple #[BV R.1, S R.2]) ∧ Below w.heap.size w w' := by
  subst ha
  have hr3 : ∀ x ∈ r, x.length ≤ 3000 := fun x h => hx x (by rw [hws]; simp [h])
  have hrl : r.length ≤ 3000 := by
    have h1 := cutB_count 32 l
    rw [hws] at h1
    simp at h1
    omega
  obtain ⟨i0, hi, hz0, hz1, hz2⟩ := info_parts info_intF
  have HR3 := Lib.hid hr3
  have HS := Lib.hid hs
  obtain ⟨now, txt, many⟩ := s
  have hnl : now.length ≤ 24 := hs.1
  have htl : txt.length ≤ 4800 := by obtain ⟨_, h2, h3⟩ := hs; simp only [] at h2 h3; omega
  clear hs hx hr3
  have HCU := Lib.hid (fun W => cutL_any l 32 W (by omega))
  rw [hws] at HCU
  clear hws
  go_enter Tryz.func35, Tryz.ntmps35
  go_wp2_with fail
  refine (HCU.out _).mono ?_
  rintro e w3 ⟨⟨A, k, rfl, hst, hge⟩, hb3⟩
  obtain ⟨hg0, hg1⟩ := two_at (old_at w _ _) (new_at w _ _) hb3
  have HG0 := Lib.hid hg0; have HG1 := Lib.hid hg1
  have HB3 := Lib.hid (below_two hb3)
  obtain ⟨b0, b1, b2, _, _, _⟩ := three_at hg0
  obtain ⟨r0, r1, r2, z0, z1, z2⟩ := three_at hg1
  obtain ⟨ba, oa, rfl, hba, c0⟩ := hst.at_ (k := 0) (by simp)
  have hgb : w.heap.size + 1 < ba := by have h := hge _ rfl; have h2 : w.heap.size + 1 + 1 ≤ ba := (by simpa using h); omega
  replace c0 : w3.cell? ⟨ba, oa, none⟩ = some (S [110, 111, 119]) := c0
  have HC : Hid (∀ j, j < r.length → w3.cell? ⟨ba, oa + (j + 1), none⟩ = some (S (li r j))) := Lib.hid fun j hj => by
    obtain ⟨bb1, ob1, eb1, _, c1⟩ := hst.at_ (k := j + 1) (by simp; omega)
    injection eb1 with eb1
    injection eb1 with eb11 eb12 _
    subst eb11 eb12
    exact c1
  have hw0 : w.heap.size < w3.heap.size := (Array.getElem?_eq_some_iff.1 hg0).1
  have hw1 : w.heap.size + 1 < w3.heap.size := (Array.getElem?_eq_some_iff.1 hg1).1
  obtain ⟨N, hN⟩ : ∃ N, N = r.length + 1 := ⟨_, rfl⟩
  rw [show ([110, 111, 119] :: r).length = N by rw [hN]; rfl]
  clear hst hge hb3 HCU hg0 hg1
  have t1 : ¬ (N : Int) = 1 := by omega
  have t2 : ((N : Int) == 1) = false := by simpa using t1
  have t3 : ¬ N = 1 := by omega
  have t4 : (N == 1) = false := by simpa using t3
  have t5 : ((r.length : Int) + 1 == 1) = false := by rw [beq_eq_false_iff_ne]; omega
  go_wp2_with fail
  clear t1 t2 t3 t4
  go_loopg [12, 13] r.length (fun f lv iv wr => ∃ (i : Nat) (ns : List Nat), i + f = r.length ∧ iv = .int .i64 ((i + 1 : Nat) : Int) ∧ ns.length = i ∧ Hid (∀ j, j < i → numD (li r j) = some (ns[j]?.getD 0)) ∧ wr.ownsRow w3.heap.size 3 1 lv i (ns.map fun n : Nat => Value.int .i64 (n : Int)) ∧ Below w3.heap.size w3 wr)
  case atStart => exact ⟨0, [], by omega, rfl, rfl, Lib.hid (fun j h => by omega), World.ownsRow_nil _ _ _ _, Below.refl _ _⟩
  case round =>
    obtain ⟨i, ns, hif, rfl, hni, HNS, hown, hBw⟩ := hrel
    obtain ⟨A1, c1, rfl, hc1⟩ := own_shape hown
    have HOWN := Lib.hid hown
    have HBW := Lib.hid (HB3.out.trans (hBw.mono HB3.out.size))
    have HB3w := Lib.hid hBw
    have hzb := hBw.size
    have hrs : wr.heap[w.heap.size + 1]? = some (bObj eBS) := (hBw.block _ hw1).trans HG1.out
    have hbs : wr.heap[w.heap.size]? = some (bObj ⟨now, txt, many⟩) := (hBw.block _ hw0).trans HG0.out
    clear b0 b1 b2 r0 r1 r2 z0 z1 z2
    obtain ⟨b0, b1, b2, _, _, _⟩ := three_at hbs
    obtain ⟨r0, r1, r2, z0, z1, z2⟩ := three_at hrs
    have HRS := Lib.hid hrs
    have hw2 : w.heap.size < wr.heap.size := by omega
    have hw3 : w.heap.size + 1 < wr.heap.size := by omega
    have c0w : wr.cell? ⟨ba, oa, none⟩ = some (S [110, 111, 119]) := (hBw.cell (p := ⟨ba, oa, none⟩) hba).trans c0
    clear hown hBw hrs hbs
    by_cases hlt : i < r.length
    · obtain ⟨f, rfl⟩ : ∃ f, gk = f + 1 := ⟨gk - 1, by omega⟩
      have hc := (HB3w.out.cell (p := ⟨ba, oa + (i + 1), none⟩) hba).trans (HC.out i hlt)
      have hxl : (li r i).length ≤ 3000 := HR3.out _ (by rw [li_eq hlt]; exact List.getElem_mem _)
      have HND := Lib.hid (fun W => numberR_any (li r i) W (by omega))
      have HNX : Hid (numD (li r i) = if (li r i).length ≤ 7 then numO (li r i) else none) := Lib.hid rfl
      have HBAD : Hid (numD (li r i) = none → R = (⟨now, txt, many⟩, badM)) := Lib.hid (fun h => HF.out i hlt h)
      have HNI : Hid (∀ n, numD (li r i) = some n → ∀ j, j < i + 1 → numD (li r j) = some ((ns ++ [n])[j]?.getD 0)) := Lib.hid fun n hn j hj => by
        rcases Nat.lt_or_ge j i with h | h
        · rw [List.getElem?_append_left (by omega)]; exact HNS.out j h
        · obtain rfl : j = i := by omega
          rw [hn, List.getElem?_append_right (by omega), hni, Nat.sub_self]; rfl
      generalize numD (li r i) = nx at *
      generalize li r i = x at *
      have p1 : ((i + 1 : Nat) : Int) < (N : Int) := by omega
      have p2 : (0 : Int) ≤ ((i + 1 : Nat) : Int) := by omega
      have p3 : i + 1 < N := by omega
      have p4 : IntKind.i64.wrap (((i + 1 : Nat) : Int) + 1) = ((i + 1 + 1 : Nat) : Int) := by rw [i64_in _ (by omega)]; omega
      have p5 : IntKind.i64.wrap ((i : Int) + 1 + 1) = (i : Int) + 1 + 1 := i64_in _ (by omega)
      have p6 : ((i : Int) + 1).toNat = i + 1 := by omega
      have p7 : (i : Int) + 1 < (N : Int) := by omega
      have p8 : (0 : Int) ≤ (i : Int) + 1 := by omega
      clear c0w
      go_wp2_with fail
      refine (HND.out _).mono ?_
      rintro e w' ⟨⟨v, rfl, hv⟩, rfl⟩
      clear HND
      cases hno : numO x with
      | none =>
        have HR2 : Hid (R = (⟨now, txt, many⟩, badM)) := Lib.hid (HBAD.out (by
          have h := HNX.out
          rw [hno, show (if x.length ≤ 7 then (none : Option Nat) else none) = none by split <;> rfl] at h
          exact h))
        clear HNX hno hv HBAD HNI
        rw [show (none : Option Nat).isSome = false from rfl]
        go_wp2_with fail
        refine bodyPost_ret (res_cell_tmp rfl _ _ (w.heap.size + 1) 23 _ (0, 0) _ rfl (set3 HRS.out) Tryz.underlying23 rfl (by kernel_rfl)) rfl ?_
        exact ⟨by rw [HR2.out]; rfl, below_set3' HBW.out⟩
      | some n =>
        obtain rfl := hv n hno
        rw [show (some n).isSome = true from rfl]
        by_cases h7 : x.length ≤ 7
        rotate_left
        · have HR2 : Hid (R = (⟨now, txt, many⟩, badM)) := Lib.hid (HBAD.out (by rw [HNX.out, if_neg h7]))
          have p9 : (7 : Int) < (x.length : Int) := by omega
          clear HNX hno hv HBAD HNI h7
          go_wp2_with fail
          refine bodyPost_ret (res_cell_tmp rfl _ _ (w.heap.size + 1) 23 _ (0, 0) _ rfl (set3 HRS.out) Tryz.underlying23 rfl (by kernel_rfl)) rfl ?_
          exact ⟨by rw [HR2.out]; rfl, below_set3' HBW.out⟩
        have p9 : ¬ (7 : Int) < (x.length : Int) := by omega
        have HN2 := Lib.hid (HNI.out n (by rw [HNX.out, if_pos h7, hno]))
        have HZB := HB3w.out.size
        clear HNX hno hv HBAD HNI h7
        go_wp2_with (at_builtin; refine wpList_append1 rfl (.tmp 129) (.tmp 131) _ rfl 3 i0 _ Tryz.underlying34 hi hz0 hz1 (by omega) rfl w3.heap.size (.slice A1 i c1) (ns.map fun n : Nat => Value.int .i64 (n : Int)) (.int .i64 (n : Int)) rfl rfl rfl (by rw [List.length_map, hni]; exact HOWN.out) (by simp; omega) HZB ?_; intro v' w' hown' hB')
        have hown2 : w'.ownsRow w3.heap.size 3 1 v' (i + 1) ((ns ++ [n]).map fun n : Nat => Value.int .i64 (n : Int)) := by rw [List.map_append]; simpa [hni] using hown'
        have HO2 := Lib.hid hown2
        have HB2 := Lib.hid (HB3w.out.trans hB')
        clear hown2 hown' hB'
        go_wp2_with fail
        go_roundg f
        case measure => omega
        case rel => exact ⟨i + 1, ns ++ [n], by omega, by simp, by simp; omega, HN2, HO2.out, HB2.out⟩
    · obtain rfl : i = r.length := by omega
      have p1 : ¬ ((r.length + 1 : Nat) : Int) < (N : Int) := by omega
      have p2 : ¬ (r.length : Int) + 1 < (N : Int) := by omega
      have p3 : ¬ r.length + 1 < N := by omega
      clear HF HNS HC HR3
      go_wp2_with fail
      refine bodyPost_ret (res_cell_tmp rfl _ _ (w.heap.size + 1) 23 _ (0, 0) _ rfl (set3 HRS.out) Tryz.underlying23 rfl (by kernel_rfl)) rfl ?_
      exact ⟨by rw [HO.out]; rfl, below_set3' HBW.out⟩
set_option maxRecDepth 100000 in
set_option maxHeartbeats 8000000 in
theorem ansR_no_find (s : BS) (l a : List UInt8) (r : List (List UInt8)) (R : BS × List UInt8) (w : World) (hs : Smalls s) (hl : l.length ≤ 3000) (hws : cutB 32 l = a :: r) (hx : ∀ x ∈ cutB 32 l, x.length ≤ 3000)
    (HF : Hid (∀ i, i < r.length → numD (li r i) = none → R = (s, badM)))
    (ha : a = [102, 105, 110, 100]) (hn : r.length ≠ 1) (HO : Hid (R = (s, badM))) :
    Calls Tryz.prog 35 #[BV s, S l] w fun e w' => e = .returned (.tuple #[BV R.1, S R.2]) ∧ Below w.heap.size w w' := by
  subst ha
  have hr3 : ∀ x ∈ r, x.length ≤ 3000 := fun x h => hx x (by rw [hws]; simp [h])
  have hrl : r.length ≤ 3000 := by
    have h1 := cutB_count 32 l
    rw [hws] at h1
    simp at h1
    omega
  obtain ⟨i0, hi, hz0, hz1, hz2⟩ := info_parts info_intF
  have HR3 := Lib.hid hr3
  have HS := Lib.hid hs
  obtain ⟨now, txt, many⟩ := s
  have hnl : now.length ≤ 24 := hs.1
  have htl : txt.length ≤ 4800 := by obtain ⟨_, h2, h3⟩ := hs; simp only [] at h2 h3; omega
  clear hs hx hr3
  have HCU := Lib.hid (fun W => cutL_any l 32 W (by omega))
  rw [hws] at HCU
  clear hws
  go_enter Tryz.func35, Tryz.ntmps35
  go_wp2_with fail
  refine (HCU.out _).mono ?_
  rintro e w3 ⟨⟨A, k, rfl, hst, hge⟩, hb3⟩
  obtain ⟨hg0, hg1⟩ := two_at (old_at w _ _) (new_at w _ _) hb3
  have HG0 := Lib.hid hg0; have HG1 := Lib.hid hg1
  have HB3 := Lib.hid (below_two hb3)
  obtain ⟨b0, b1, b2, _, _, _⟩ := three_at hg0
  obtain ⟨r0, r1, r2, z0, z1, z2⟩ := three_at hg1
  obtain ⟨ba, oa, rfl, hba, c0⟩ := hst.at_ (k := 0) (by simp)
  have hgb : w.heap.size + 1 < ba := by have h := hge _ rfl; have h2 : w.heap.size + 1 + 1 ≤ ba := (by simpa using h); omega
  replace c0 : w3.cell? ⟨ba, oa, none⟩ = some (S [102, 105, 110, 100]) := c0
  have HC : Hid (∀ j, j < r.length → w3.cell? ⟨ba, oa + (j + 1), none⟩ = some (S (li r j))) := Lib.hid fun j hj => by
    obtain ⟨bb1, ob1, eb1, _, c1⟩ := hst.at_ (k := j + 1) (by simp; omega)
    injection eb1 with eb1
    injection eb1 with eb11 eb12 _
    subst eb11 eb12
    exact c1
  have hw0 : w.heap.size < w3.heap.size := (Array.getElem?_eq_some_iff.1 hg0).1
  have hw1 : w.heap.size + 1 < w3.heap.size := (Array.getElem?_eq_some_iff.1 hg1).1
  obtain ⟨N, hN⟩ : ∃ N, N = r.length + 1 := ⟨_, rfl⟩
  rw [show ([102, 105, 110, 100] :: r).length = N by rw [hN]; rfl]
  clear hst hge hb3 HCU hg0 hg1
  have t1 : ¬ (N : Int) = 2 := by omega
  have t2 : ((N : Int) == 2) = false := by simpa using t1
  have t3 : ¬ N = 2 := by omega
  have t4 : (N == 2) = false := by simpa using t3
  have t5 : ((r.length : Int) + 1 == 2) = false := by rw [beq_eq_false_iff_ne]; omega
  go_wp2_with fail
  clear t1 t2 t3 t4
  go_loopg [12, 13] r.length (fun f lv iv wr => ∃ (i : Nat) (ns : List Nat), i + f = r.length ∧ iv = .int .i64 ((i + 1 : Nat) : Int) ∧ ns.length = i ∧ Hid (∀ j, j < i → numD (li r j) = some (ns[j]?.getD 0)) ∧ wr.ownsRow w3.heap.size 3 1 lv i (ns.map fun n : Nat => Value.int .i64 (n : Int)) ∧ Below w3.heap.size w3 wr)
  case atStart => exact ⟨0, [], by omega, rfl, rfl, Lib.hid (fun j h => by omega), World.ownsRow_nil _ _ _ _, Below.refl _ _⟩
  case round =>
    obtain ⟨i, ns, hif, rfl, hni, HNS, hown, hBw⟩ := hrel
    obtain ⟨A1, c1, rfl, hc1⟩ := own_shape hown
    have HOWN := Lib.hid hown
    have HBW := Lib.hid (HB3.out.trans (hBw.mono HB3.out.size))
    have HB3w := Lib.hid hBw
    have hzb := hBw.size
    have hrs : wr.heap[w.heap.size + 1]? = some (bObj eBS) := (hBw.block _ hw1).trans HG1.out
    have hbs : wr.heap[w.heap.size]? = some (bObj ⟨now, txt, many⟩) := (hBw.block _ hw0).trans HG0.out
    clear b0 b1 b2 r0 r1 r2 z0 z1 z2
    obtain ⟨b0, b1, b2, _, _, _⟩ := three_at hbs
    obtain ⟨r0, r1, r2, z0, z1, z2⟩ := three_at hrs
    have HRS := Lib.hid hrs
    have hw2 : w.heap.size < wr.heap.size := by omega
    have hw3 : w.heap.size + 1 < wr.heap.size := by omega
    have c0w : wr.cell? ⟨ba, oa, none⟩ = some (S [102, 105, 110, 100]) := (hBw.cell (p := ⟨ba, oa, none⟩) hba).trans c0
    clear hown hBw hrs hbs
    by_cases hlt : i < r.length
    · obtain ⟨f, rfl⟩ : ∃ f, gk = f + 1 := ⟨gk - 1, by omega⟩
      have hc := (HB3w.out.cell (p := ⟨ba, oa + (i + 1), none⟩) hba).trans (HC.out i hlt)
      have hxl : (li r i).length ≤ 3000 := HR3.out _ (by rw [li_eq hlt]; exact List.getElem_mem _)
      have HND := Lib.hid (fun W => numberR_any (li r i) W (by omega))
      have HNX : Hid (numD (li r i) = if (li r i).length ≤ 7 then numO (li r i) else none) := Lib.hid rfl
      have HBAD : Hid (numD (li r i) = none → R = (⟨now, txt, many⟩, badM)) := Lib.hid (fun h => HF.out i hlt h)
      have HNI : Hid (∀ n, numD (li r i) = some n → ∀ j, j < i + 1 → numD (li r j) = some ((ns ++ [n])[j]?.getD 0)) := Lib.hid fun n hn j hj => by
        rcases Nat.lt_or_ge j i with h | h
        · rw [List.getElem?_append_left (by omega)]; exact HNS.out j h
        · obtain rfl : j = i := by omega
          rw [hn, List.getElem?_append_right (by omega), hni, Nat.sub_self]; rfl
      generalize numD (li r i) = nx at *
      generalize li r i = x at *
      have p1 : ((i + 1 : Nat) : Int) < (N : Int) := by omega
      have p2 : (0 : Int) ≤ ((i + 1 : Nat) : Int) := by omega
      have p3 : i + 1 < N := by omega
      have p4 : IntKind.i64.wrap (((i + 1 : Nat) : Int) + 1) = ((i + 1 + 1 : Nat) : Int) := by rw [i64_in _ (by omega)]; omega
      have p5 : IntKind.i64.wrap ((i : Int) + 1 + 1) = (i : Int) + 1 + 1 := i64_in _ (by omega)
      have p6 : ((i : Int) + 1).toNat = i + 1 := by omega
      have p7 : (i : Int) + 1 < (N : Int) := by omega
      have p8 : (0 : Int) ≤ (i : Int) + 1 := by omega
      clear c0w
      go_wp2_with fail
      refine (HND.out _).mono ?_
      rintro e w' ⟨⟨v, rfl, hv⟩, rfl⟩
      clear HND
      cases hno : numO x with
      | none =>
        have HR2 : Hid (R = (⟨now, txt, many⟩, badM)) := Lib.hid (HBAD.out (by
          have h := HNX.out
          rw [hno, show (if x.length ≤ 7 then (none : Option Nat) else none) = none by split <;> rfl] at h
          exact h))
        clear HNX hno hv HBAD HNI
        rw [show (none : Option Nat).isSome = false from rfl]
        go_wp2_with fail
        refine bodyPost_ret (res_cell_tmp rfl _ _ (w.heap.size + 1) 23 _ (0, 0) _ rfl (set3 HRS.out) Tryz.underlying23 rfl (by kernel_rfl)) rfl ?_
        exact ⟨by rw [HR2.out]; rfl, below_set3' HBW.out⟩
      | some n =>
        obtain rfl := hv n hno
        rw [show (some n).isSome = true from rfl]
        by_cases h7 : x.length ≤ 7
        rotate_left
        · have HR2 : Hid (R = (⟨now, txt, many⟩, badM)) := Lib.hid (HBAD.out (by rw [HNX.out, if_neg h7]))
          have p9 : (7 : Int) < (x.length : Int) := by omega
          clear HNX hno hv HBAD HNI h7
          go_wp2_with fail
          refine bodyPost_ret (res_cell_tmp rfl _ _ (w.heap.size + 1) 23 _ (0, 0) _ rfl (set3 HRS.out) Tryz.underlying23 rfl (by kernel_rfl)) rfl ?_
          exact ⟨by rw [HR2.out]; rfl, below_set3' HBW.out⟩
        have p9 : ¬ (7 : Int) < (x.length : Int) := by omega
        have HN2 := Lib.hid (HNI.out n (by rw [HNX.out, if_pos h7, hno]))
        have HZB := HB3w.out.size
        clear HNX hno hv HBAD HNI h7
        go_wp2_with (at_builtin; refine wpList_append1 rfl (.tmp 129) (.tmp 131) _ rfl 3 i0 _ Tryz.underlying34 hi hz0 hz1 (by omega) rfl w3.heap.size (.slice A1 i c1) (ns.map fun n : Nat => Value.int .i64 (n : Int)) (.int .i64 (n : Int)) rfl rfl rfl (by rw [List.length_map, hni]; exact HOWN.out) (by simp; omega) HZB ?_; intro v' w' hown' hB')
        have hown2 : w'.ownsRow w3.heap.size 3 1 v' (i + 1) ((ns ++ [n]).map fun n : Nat => Value.int .i64 (n : Int)) := by rw [List.map_append]; simpa [hni] using hown'
        have HO2 := Lib.hid hown2
        have HB2 := Lib.hid (HB3w.out.trans hB')
        clear hown2 hown' hB'
        go_wp2_with fail
        go_roundg f
        case measure => omega
        case rel => exact ⟨i + 1, ns ++ [n], by omega, by simp, by simp; omega, HN2, HO2.out, HB2.out⟩
    · obtain rfl : i = r.length := by omega
      have p1 : ¬ ((r.length + 1 : Nat) : Int) < (N : Int) := by omega
      have p2 : ¬ (r.length : Int) + 1 < (N : Int) := by omega
      have p3 : ¬ r.length + 1 < N := by omega
      clear HF HNS HC HR3
      go_wp2_with fail
      refine bodyPost_ret (res_cell_tmp rfl _ _ (w.heap.size + 1) 23 _ (0, 0) _ rfl (set3 HRS.out) Tryz.underlying23 rfl (by kernel_rfl)) rfl ?_
      exact ⟨by rw [HO.out]; rfl, below_set3' HBW.out⟩
set_option maxRecDepth 100000 in
set_option maxHeartbeats 8000000 in
theorem ansR_no_put (s : BS) (l a : List UInt8) (r : List (List UInt8)) (R : BS × List UInt8) (w : World) (hs : Smalls s) (hl : l.length ≤ 3000) (hws : cutB 32 l = a :: r) (hx : ∀ x ∈ cutB 32 l, x.length ≤ 3000)
    (HF : Hid (∀ i, i < r.length → numD (li r i) = none → R = (s, badM)))
    (ha : a = [112, 117, 116]) (hn : r.length ≠ 2) (HO : Hid (R = (s, badM))) :
    Calls Tryz.prog 35 #[BV s, S l] w fun e w' => e = .returned (.tuple #[BV R.1, S R.2]) ∧ Below w.heap.size w w' := by
  subst ha
  have hr3 : ∀ x ∈ r, x.length ≤ 3000 := fun x h => hx x (by rw [hws]; simp [h])
  have hrl : r.length ≤ 3000 := by
    have h1 := cutB_count 32 l
    rw [hws] at h1
    simp at h1
    omega
  obtain ⟨i0, hi, hz0, hz1, hz2⟩ := info_parts info_intF
  have HR3 := Lib.hid hr3
  have HS := Lib.hid hs
  obtain ⟨now, txt, many⟩ := s
  have hnl : now.length ≤ 24 := hs.1
  have htl : txt.length ≤ 4800 := by obtain ⟨_, h2, h3⟩ := hs; simp only [] at h2 h3; omega
  clear hs hx hr3
  have HCU := Lib.hid (fun W => cutL_any l 32 W (by omega))
  rw [hws] at HCU
  clear hws
  go_enter Tryz.func35, Tryz.ntmps35
  go_wp2_with fail
  refine (HCU.out _).mono ?_
  rintro e w3 ⟨⟨A, k, rfl, hst, hge⟩, hb3⟩
  obtain ⟨hg0, hg1⟩ := two_at (old_at w _ _) (new_at w _ _) hb3
  have HG0 := Lib.hid hg0; have HG1 := Lib.hid hg1
  have HB3 := Lib.hid (below_two hb3)
  obtain ⟨b0, b1, b2, _, _, _⟩ := three_at hg0
  obtain ⟨r0, r1, r2, z0, z1, z2⟩ := three_at hg1
  obtain ⟨ba, oa, rfl, hba, c0⟩ := hst.at_ (k := 0) (by simp)
  have hgb : w.heap.size + 1 < ba := by have h := hge _ rfl; have h2 : w.heap.size + 1 + 1 ≤ ba := (by simpa using h); omega
  replace c0 : w3.cell? ⟨ba, oa, none⟩ = some (S [112, 117, 116]) := c0
  have HC : Hid (∀ j, j < r.length → w3.cell? ⟨ba, oa + (j + 1), none⟩ = some (S (li r j))) := Lib.hid fun j hj => by
    obtain ⟨bb1, ob1, eb1, _, c1⟩ := hst.at_ (k := j + 1) (by simp; omega)
    injection eb1 with eb1
    injection eb1 with eb11 eb12 _
    subst eb11 eb12
    exact c1
  have hw0 : w.heap.size < w3.heap.size := (Array.getElem?_eq_some_iff.1 hg0).1
  have hw1 : w.heap.size + 1 < w3.heap.size := (Array.getElem?_eq_some_iff.1 hg1).1
  obtain ⟨N, hN⟩ : ∃ N, N = r.length + 1 := ⟨_, rfl⟩
  rw [show ([112, 117, 116] :: r).length = N by rw [hN]; rfl]
  clear hst hge hb3 HCU hg0 hg1
  have t1 : ¬ (N : Int) = 3 := by omega
  have t2 : ((N : Int) == 3) = false := by simpa using t1
  have t3 : ¬ N = 3 := by omega
  have t4 : (N == 3) = false := by simpa using t3
  have t5 : ((r.length : Int) + 1 == 3) = false := by rw [beq_eq_false_iff_ne]; omega
  go_wp2_with fail
  clear t1 t2 t3 t4
  go_loopg [12, 13] r.length (fun f lv iv wr => ∃ (i : Nat) (ns : List Nat), i + f = r.length ∧ iv = .int .i64 ((i + 1 : Nat) : Int) ∧ ns.length = i ∧ Hid (∀ j, j < i → numD (li r j) = some (ns[j]?.getD 0)) ∧ wr.ownsRow w3.heap.size 3 1 lv i (ns.map fun n : Nat => Value.int .i64 (n : Int)) ∧ Below w3.heap.size w3 wr)
  case atStart => exact ⟨0, [], by omega, rfl, rfl, Lib.hid (fun j h => by omega), World.ownsRow_nil _ _ _ _, Below.refl _ _⟩
  case round =>
    obtain ⟨i, ns, hif, rfl, hni, HNS, hown, hBw⟩ := hrel
    obtain ⟨A1, c1, rfl, hc1⟩ := own_shape hown
    have HOWN := Lib.hid hown
    have HBW := Lib.hid (HB3.out.trans (hBw.mono HB3.out.size))
    have HB3w := Lib.hid hBw
    have hzb := hBw.size
    have hrs : wr.heap[w.heap.size + 1]? = some (bObj eBS) := (hBw.block _ hw1).trans HG1.out
    have hbs : wr.heap[w.heap.size]? = some (bObj ⟨now, txt, many⟩) := (hBw.block _ hw0).trans HG0.out
    clear b0 b1 b2 r0 r1 r2 z0 z1 z2
    obtain ⟨b0, b1, b2, _, _, _⟩ := three_at hbs
    obtain ⟨r0, r1, r2, z0, z1, z2⟩ := three_at hrs
    have HRS := Lib.hid hrs
    have hw2 : w.heap.size < wr.heap.size := by omega
    have hw3 : w.heap.size + 1 < wr.heap.size := by omega
    have c0w : wr.cell? ⟨ba, oa, none⟩ = some (S [112, 117, 116]) := (hBw.cell (p := ⟨ba, oa, none⟩) hba).trans c0
    clear hown hBw hrs hbs
    by_cases hlt : i < r.length
    · obtain ⟨f, rfl⟩ : ∃ f, gk = f + 1 := ⟨gk - 1, by omega⟩
      have hc := (HB3w.out.cell (p := ⟨ba, oa + (i + 1), none⟩) hba).trans (HC.out i hlt)
      have hxl : (li r i).length ≤ 3000 := HR3.out _ (by rw [li_eq hlt]; exact List.getElem_mem _)
      have HND := Lib.hid (fun W => numberR_any (li r i) W (by omega))
      have HNX : Hid (numD (li r i) = if (li r i).length ≤ 7 then numO (li r i) else none) := Lib.hid rfl
      have HBAD : Hid (numD (li r i) = none → R = (⟨now, txt, many⟩, badM)) := Lib.hid (fun h => HF.out i hlt h)
      have HNI : Hid (∀ n, numD (li r i) = some n → ∀ j, j < i + 1 → numD (li r j) = some ((ns ++ [n])[j]?.getD 0)) := Lib.hid fun n hn j hj => by
        rcases Nat.lt_or_ge j i with h | h
        · rw [List.getElem?_append_left (by omega)]; exact HNS.out j h
        · obtain rfl : j = i := by omega
          rw [hn, List.getElem?_append_right (by omega), hni, Nat.sub_self]; rfl
      generalize numD (li r i) = nx at *
      generalize li r i = x at *
      have p1 : ((i + 1 : Nat) : Int) < (N : Int) := by omega
      have p2 : (0 : Int) ≤ ((i + 1 : Nat) : Int) := by omega
      have p3 : i + 1 < N := by omega
      have p4 : IntKind.i64.wrap (((i + 1 : Nat) : Int) + 1) = ((i + 1 + 1 : Nat) : Int) := by rw [i64_in _ (by omega)]; omega
      have p5 : IntKind.i64.wrap ((i : Int) + 1 + 1) = (i : Int) + 1 + 1 := i64_in _ (by omega)
      have p6 : ((i : Int) + 1).toNat = i + 1 := by omega
      have p7 : (i : Int) + 1 < (N : Int) := by omega
      have p8 : (0 : Int) ≤ (i : Int) + 1 := by omega
      clear c0w
      go_wp2_with fail
      refine (HND.out _).mono ?_
      rintro e w' ⟨⟨v, rfl, hv⟩, rfl⟩
      clear HND
      cases hno : numO x with
      | none =>
        have HR2 : Hid (R = (⟨now, txt, many⟩, badM)) := Lib.hid (HBAD.out (by
          have h := HNX.out
          rw [hno, show (if x.length ≤ 7 then (none : Option Nat) else none) = none by split <;> rfl] at h
          exact h))
        clear HNX hno hv HBAD HNI
        rw [show (none : Option Nat).isSome = false from rfl]
        go_wp2_with fail
        refine bodyPost_ret (res_cell_tmp rfl _ _ (w.heap.size + 1) 23 _ (0, 0) _ rfl (set3 HRS.out) Tryz.underlying23 rfl (by kernel_rfl)) rfl ?_
        exact ⟨by rw [HR2.out]; rfl, below_set3' HBW.out⟩
      | some n =>
        obtain rfl := hv n hno
        rw [show (some n).isSome = true from rfl]
        by_cases h7 : x.length ≤ 7
        rotate_left
        · have HR2 : Hid (R = (⟨now, txt, many⟩, badM)) := Lib.hid (HBAD.out (by rw [HNX.out, if_neg h7]))
          have p9 : (7 : Int) < (x.length : Int) := by omega
          clear HNX hno hv HBAD HNI h7
          go_wp2_with fail
          refine bodyPost_ret (res_cell_tmp rfl _ _ (w.heap.size + 1) 23 _ (0, 0) _ rfl (set3 HRS.out) Tryz.underlying23 rfl (by kernel_rfl)) rfl ?_
          exact ⟨by rw [HR2.out]; rfl, below_set3' HBW.out⟩
        have p9 : ¬ (7 : Int) < (x.length : Int) := by omega
        have HN2 := Lib.hid (HNI.out n (by rw [HNX.out, if_pos h7, hno]))
        have HZB := HB3w.out.size
        clear HNX hno hv HBAD HNI h7
        go_wp2_with (at_builtin; refine wpList_append1 rfl (.tmp 129) (.tmp 131) _ rfl 3 i0 _ Tryz.underlying34 hi hz0 hz1 (by omega) rfl w3.heap.size (.slice A1 i c1) (ns.map fun n : Nat => Value.int .i64 (n : Int)) (.int .i64 (n : Int)) rfl rfl rfl (by rw [List.length_map, hni]; exact HOWN.out) (by simp; omega) HZB ?_; intro v' w' hown' hB')
        have hown2 : w'.ownsRow w3.heap.size 3 1 v' (i + 1) ((ns ++ [n]).map fun n : Nat => Value.int .i64 (n : Int)) := by rw [List.map_append]; simpa [hni] using hown'
        have HO2 := Lib.hid hown2
        have HB2 := Lib.hid (HB3w.out.trans hB')
        clear hown2 hown' hB'
        go_wp2_with fail
        go_roundg f
        case measure => omega
        case rel => exact ⟨i + 1, ns ++ [n], by omega, by simp, by simp; omega, HN2, HO2.out, HB2.out⟩
    · obtain rfl : i = r.length := by omega
      have p1 : ¬ ((r.length + 1 : Nat) : Int) < (N : Int) := by omega
      have p2 : ¬ (r.length : Int) + 1 < (N : Int) := by omega
      have p3 : ¬ r.length + 1 < N := by omega
      clear HF HNS HC HR3
      go_wp2_with fail
      refine bodyPost_ret (res_cell_tmp rfl _ _ (w.heap.size + 1) 23 _ (0, 0) _ rfl (set3 HRS.out) Tryz.underlying23 rfl (by kernel_rfl)) rfl ?_
      exact ⟨by rw [HO.out]; rfl, below_set3' HBW.out⟩
end Go.Proofs.YteoofkinmilckaaGreatDoor
