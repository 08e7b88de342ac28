/- The document's answer: cut, crash, what is no line. No condition. -/
import Derived.Test.YteoofkinmilckaaGreatDoorDeskAc
import Derived.Test.YteoofkinmilckaaGreatDoorDeskM
namespace Go.Proofs.YteoofkinmilckaaGreatDoor
open Go.RowKit Go.Shelf IntWalk
attribute [local go_sem] byte_at str_app
attribute [local go_sem ↓] Go.wp_at_zero Go.wp_at_succ

theorem own_two {w : World} {base : Nat} {v : Value} {n k : Int} (h : w.ownsRow base 3 1 v 2 [.int .i64 n, .int .i64 k]) : ∃ g c o, v = .slice (some ⟨g, 0, none⟩) 2 c ∧ base ≤ g ∧ w.heap[g]? = some o ∧ w.cell? ⟨g, 0, none⟩ = some (.int .i64 n) ∧ w.cell? ⟨g, 1, none⟩ = some (.int .i64 k) := by
  rcases h.2 with ⟨_, h0⟩ | ⟨g, cap, cur, rfl, hb, hg, _⟩
  · omega
  · have h1 := h.cells (g := g) rfl 0 (.int .i64 n) rfl
    have h2 := h.cells (g := g) rfl 1 (.int .i64 k) rfl
    rw [Addr.add_lit] at h1 h2
    exact ⟨g, cap, _, rfl, hb, hg, h1, h2⟩
set_option maxRecDepth 100000 in
set_option maxHeartbeats 8000000 in
theorem ansR_oth (s : BS) (l a : List UInt8) (r : List (List UInt8)) (R : BS × List UInt8) (w : World) (hs : Smalls s) (hl : l.length ≤ 3000) (hws : cutB 32 l = a :: r) (hx : ∀ x ∈ cutB 32 l, x.length ≤ 3000)
    (HF : Hid (∀ i, i < r.length → numD (li r i) = none → R = (s, badM)))
    (a0 : (a == [110, 111, 119]) = false) (a1 : (a == [102, 105, 110, 100]) = false) (a2 : (a == [112, 117, 116]) = false)
    (HCUT : Hid (a = [99, 117, 116] → ∀ n k, r.length = 2 → numD (li r 0) = some n → numD (li r 1) = some k → R = ((cutS s n k).2, toldM (cutS s n k).1)))
    (HCR : Hid (a = [99, 114, 97, 115, 104] → ∀ n, r.length = 1 → numD (li r 0) = some n → R = crashA s n))
    (HO : Hid (¬ (a = [99, 117, 116] ∧ r.length = 2) → ¬ (a = [99, 114, 97, 115, 104] ∧ r.length = 1) → R = (s, badM))) :
    Calls Tryz.prog 35 #[BV s, S l] w fun e w' => e = .returned (.tuple #[BV R.1, S R.2]) ∧ Below w.heap.size w w' := by
  have hr3 : ∀ x ∈ r, x.length ≤ 3000 := fun x h => hx x (by rw [hws]; simp [h])
  have hrl : r.length ≤ 3000 := by
    have h1 := cutB_count 32 l
    rw [hws] at h1
    simp at h1
    omega
  obtain ⟨i0, hi, hz0, hz1, hz2⟩ := info_parts info_intF
  have HR3 := Lib.hid hr3
  have HS := Lib.hid hs
  obtain ⟨now, txt, many⟩ := s
  have hnl : now.length ≤ 24 := hs.1
  have htl : txt.length ≤ 4800 := by obtain ⟨_, h2, h3⟩ := hs; simp only [] at h2 h3; omega
  clear hs hx hr3
  have HCU := Lib.hid (fun W => cutL_any l 32 W (by omega))
  rw [hws] at HCU
  clear hws
  go_enter Tryz.func35, Tryz.ntmps35
  go_wp2_with fail
  refine (HCU.out _).mono ?_
  rintro e w3 ⟨⟨A, k, rfl, hst, hge⟩, hb3⟩
  obtain ⟨hg0, hg1⟩ := two_at (old_at w _ _) (new_at w _ _) hb3
  have HG0 := Lib.hid hg0; have HG1 := Lib.hid hg1
  have HB3 := Lib.hid (below_two hb3)
  obtain ⟨b0, b1, b2, _, _, _⟩ := three_at hg0
  obtain ⟨r0, r1, r2, z0, z1, z2⟩ := three_at hg1
  obtain ⟨ba, oa, rfl, hba, c0⟩ := hst.at_ (k := 0) (by simp)
  have hgb : w.heap.size + 1 < ba := by have h := hge _ rfl; have h2 : w.heap.size + 1 + 1 ≤ ba := (by simpa using h); omega
  replace c0 : w3.cell? ⟨ba, oa, none⟩ = some (S a) := c0
  have HC : Hid (∀ j, j < r.length → w3.cell? ⟨ba, oa + (j + 1), none⟩ = some (S (li r j))) := Lib.hid fun j hj => by
    obtain ⟨bb1, ob1, eb1, _, c1⟩ := hst.at_ (k := j + 1) (by simp; omega)
    injection eb1 with eb1
    injection eb1 with eb11 eb12 _
    subst eb11 eb12
    exact c1
  have hw0 : w.heap.size < w3.heap.size := (Array.getElem?_eq_some_iff.1 hg0).1
  have hw1 : w.heap.size + 1 < w3.heap.size := (Array.getElem?_eq_some_iff.1 hg1).1
  obtain ⟨N, hN⟩ : ∃ N, N = r.length + 1 := ⟨_, rfl⟩
  rw [show (a :: r).length = N by rw [hN]; rfl]
  clear hst hge hb3 HCU hg0 hg1
  go_wp2_with fail
  go_loopg [12, 13] r.length (fun f lv iv wr => ∃ (i : Nat) (ns : List Nat), i + f = r.length ∧ iv = .int .i64 ((i + 1 : Nat) : Int) ∧ ns.length = i ∧ Hid (∀ j, j < i → numD (li r j) = some (ns[j]?.getD 0)) ∧ wr.ownsRow w3.heap.size 3 1 lv i (ns.map fun n : Nat => Value.int .i64 (n : Int)) ∧ Below w3.heap.size w3 wr)
  case atStart => exact ⟨0, [], by omega, rfl, rfl, Lib.hid (fun j h => by omega), World.ownsRow_nil _ _ _ _, Below.refl _ _⟩
  case round =>
    obtain ⟨i, ns, hif, rfl, hni, HNS, hown, hBw⟩ := hrel
    obtain ⟨A1, c1, rfl, hc1⟩ := own_shape hown
    have HOWN := Lib.hid hown
    have HBW := Lib.hid (HB3.out.trans (hBw.mono HB3.out.size))
    have HB3w := Lib.hid hBw
    have hzb := hBw.size
    have hrs : wr.heap[w.heap.size + 1]? = some (bObj eBS) := (hBw.block _ hw1).trans HG1.out
    have hbs : wr.heap[w.heap.size]? = some (bObj ⟨now, txt, many⟩) := (hBw.block _ hw0).trans HG0.out
    clear b0 b1 b2 r0 r1 r2 z0 z1 z2
    obtain ⟨b0, b1, b2, _, _, _⟩ := three_at hbs
    obtain ⟨r0, r1, r2, z0, z1, z2⟩ := three_at hrs
    have HRS := Lib.hid hrs
    have hw2 : w.heap.size < wr.heap.size := by omega
    have hw3 : w.heap.size + 1 < wr.heap.size := by omega
    have c0w : wr.cell? ⟨ba, oa, none⟩ = some (S a) := (hBw.cell (p := ⟨ba, oa, none⟩) hba).trans c0
    clear hown hBw hrs hbs
    by_cases hlt : i < r.length
    · obtain ⟨f, rfl⟩ : ∃ f, gk = f + 1 := ⟨gk - 1, by omega⟩
      have hc := (HB3w.out.cell (p := ⟨ba, oa + (i + 1), none⟩) hba).trans (HC.out i hlt)
      have hxl : (li r i).length ≤ 3000 := HR3.out _ (by rw [li_eq hlt]; exact List.getElem_mem _)
      have HND := Lib.hid (fun W => numberR_any (li r i) W (by omega))
      have HNX : Hid (numD (li r i) = if (li r i).length ≤ 7 then numO (li r i) else none) := Lib.hid rfl
      have HBAD : Hid (numD (li r i) = none → R = (⟨now, txt, many⟩, badM)) := Lib.hid (fun h => HF.out i hlt h)
      have HNI : Hid (∀ n, numD (li r i) = some n → ∀ j, j < i + 1 → numD (li r j) = some ((ns ++ [n])[j]?.getD 0)) := Lib.hid fun n hn j hj => by
        rcases Nat.lt_or_ge j i with h | h
        · rw [List.getElem?_append_left (by omega)]; exact HNS.out j h
        · obtain rfl : j = i := by omega
          rw [hn, List.getElem?_append_right (by omega), hni, Nat.sub_self]; rfl
      generalize numD (li r i) = nx at *
      generalize li r i = x at *
      have p1 : ((i + 1 : Nat) : Int) < (N : Int) := by omega
      have p2 : (0 : Int) ≤ ((i + 1 : Nat) : Int) := by omega
      have p3 : i + 1 < N := by omega
      have p4 : IntKind.i64.wrap (((i + 1 : Nat) : Int) + 1) = ((i + 1 + 1 : Nat) : Int) := by rw [i64_in _ (by omega)]; omega
      have p5 : IntKind.i64.wrap ((i : Int) + 1 + 1) = (i : Int) + 1 + 1 := i64_in _ (by omega)
      have p6 : ((i : Int) + 1).toNat = i + 1 := by omega
      have p7 : (i : Int) + 1 < (N : Int) := by omega
      have p8 : (0 : Int) ≤ (i : Int) + 1 := by omega
      clear c0w
      go_wp2_with fail
      refine (HND.out _).mono ?_
      rintro e w' ⟨⟨v, rfl, hv⟩, rfl⟩
      clear HND
      cases hno : numO x with
      | none =>
        have HR2 : Hid (R = (⟨now, txt, many⟩, badM)) := Lib.hid (HBAD.out (by
          have h := HNX.out
          rw [hno, show (if x.length ≤ 7 then (none : Option Nat) else none) = none by split <;> rfl] at h
          exact h))
        clear HNX hno hv HBAD HNI
        rw [show (none : Option Nat).isSome = false from rfl]
        go_wp2_with fail
        refine bodyPost_ret (res_cell_tmp rfl _ _ (w.heap.size + 1) 23 _ (0, 0) _ rfl (set3 HRS.out) Tryz.underlying23 rfl (by kernel_rfl)) rfl ?_
        exact ⟨by rw [HR2.out]; rfl, below_set3' HBW.out⟩
      | some n =>
        obtain rfl := hv n hno
        rw [show (some n).isSome = true from rfl]
        by_cases h7 : x.length ≤ 7
        rotate_left
        · have HR2 : Hid (R = (⟨now, txt, many⟩, badM)) := Lib.hid (HBAD.out (by rw [HNX.out, if_neg h7]))
          have p9 : (7 : Int) < (x.length : Int) := by omega
          clear HNX hno hv HBAD HNI h7
          go_wp2_with fail
          refine bodyPost_ret (res_cell_tmp rfl _ _ (w.heap.size + 1) 23 _ (0, 0) _ rfl (set3 HRS.out) Tryz.underlying23 rfl (by kernel_rfl)) rfl ?_
          exact ⟨by rw [HR2.out]; rfl, below_set3' HBW.out⟩
        have p9 : ¬ (7 : Int) < (x.length : Int) := by omega
        have HN2 := Lib.hid (HNI.out n (by rw [HNX.out, if_pos h7, hno]))
        have HZB := HB3w.out.size
        clear HNX hno hv HBAD HNI h7
        go_wp2_with (at_builtin; refine wpList_append1 rfl (.tmp 129) (.tmp 131) _ rfl 3 i0 _ Tryz.underlying34 hi hz0 hz1 (by omega) rfl w3.heap.size (.slice A1 i c1) (ns.map fun n : Nat => Value.int .i64 (n : Int)) (.int .i64 (n : Int)) rfl rfl rfl (by rw [List.length_map, hni]; exact HOWN.out) (by simp; omega) HZB ?_; intro v' w' hown' hB')
        have hown2 : w'.ownsRow w3.heap.size 3 1 v' (i + 1) ((ns ++ [n]).map fun n : Nat => Value.int .i64 (n : Int)) := by rw [List.map_append]; simpa [hni] using hown'
        have HO2 := Lib.hid hown2
        have HB2 := Lib.hid (HB3w.out.trans hB')
        clear hown2 hown' hB'
        go_wp2_with fail
        go_roundg f
        case measure => omega
        case rel => exact ⟨i + 1, ns ++ [n], by omega, by simp, by simp; omega, HN2, HO2.out, HB2.out⟩
    · obtain rfl : i = r.length := by omega
      have p1 : ¬ ((r.length + 1 : Nat) : Int) < (N : Int) := by omega
      have p2 : ¬ (r.length : Int) + 1 < (N : Int) := by omega
      have p3 : ¬ r.length + 1 < N := by omega
      by_cases hcut : a = [99, 117, 116]
      · subst hcut
        by_cases hn2 : r.length = 2
        rotate_left
        · have HR2 : Hid (R = (⟨now, txt, many⟩, badM)) := Lib.hid (HO.out (fun h => hn2 h.2) (fun h => absurd h.1 (by decide)))
          have t1 : ¬ (r.length : Int) = 2 := by omega
          have t2 : ((r.length : Int) == 2) = false := by simpa using t1
          have t3 : (r.length == 2) = false := by simpa using hn2
          clear HF HNS HC HR3 HCUT HCR HO
          go_wp2_with fail
          refine bodyPost_ret (res_cell_tmp rfl _ _ (w.heap.size + 1) 23 _ (0, 0) _ rfl (set3 HRS.out) Tryz.underlying23 rfl (by kernel_rfl)) rfl ?_
          exact ⟨by rw [HR2.out]; rfl, below_set3' HBW.out⟩
        obtain ⟨n, k', rfl⟩ : ∃ n k', ns = [n, k'] := by
          match ns, hni.trans hn2 with
          | [n, k'], _ => exact ⟨n, k', rfl⟩
        have HR2 : Hid (R = ((cutS ⟨now, txt, many⟩ n k').2, toldM (cutS ⟨now, txt, many⟩ n k').1)) := Lib.hid (HCUT.out rfl n k' hn2 (HNS.out 0 (by omega)) (HNS.out 1 (by omega)))
        have HCTR := Lib.hid (fun W => cutR_any ⟨now, txt, many⟩ (n : Int) (k' : Int) W HS.out)
        generalize cutS ⟨now, txt, many⟩ n k' = q at *
        obtain ⟨e0, s'⟩ := q
        have HCD := Lib.hid (fun W => called_any e0 W)
        have hown := HOWN.out
        rw [hn2] at hown
        obtain ⟨gl, cl, og, ev, hgl, hgo, l0, l1⟩ := own_two hown
        injection ev with ev1 _ ev2
        subst ev1 ev2
        have hglt : gl < wr.heap.size := (Array.getElem?_eq_some_iff.1 hgo).1
        rw [hn2]
        clear hown HOWN HF HNS HC HR3 HCUT HCR HO hgo
        go_upto_region 24 with fail
        go_cut [16, 17] from 22 to 152 (fun pv ev wx => ∃ g, pv = .pointer (some ⟨g, 0, none⟩) ∧ ev = .int .i64 e0 ∧ Hid (AR w g s' wx))
        case first =>
          go_region_with (refine (HCTR.out _).mono ?_; rintro e w6 ⟨rfl, hb6⟩; try (have hg8 : w6.heap[wr.heap.size]? = some (bObj eBS) := (Below.block hb6 wr.heap.size (by simp)).trans (heap_alloc_new wr _); obtain ⟨t0, t1, t2, t3, t4, t5⟩ := three_at hg8))
          all_goals
            first
              | (have hO6 := Lib.hid (AR.one (s' := s') HRS.out HBW.out (show Below wr.heap.size wr w6 from (Below.drew (Below.refl _ wr)).trans hb6))
                 clear hb6
                 go_wp2_with fail
                 go_meet
                 exact ⟨_, rfl, rfl, hO6⟩)
              | (have hO6 := Lib.hid (AR.two (s' := s') HRS.out HBW.out (show Below (wr.alloc (bObj eBS)).heap.size (wr.alloc (bObj eBS)) w6 from (Below.drew (Below.refl _ _)).trans hb6))
                 clear hb6
                 go_wp2_with fail
                 go_meet
                 exact ⟨_, rfl, rfl, hO6⟩)
        case rest =>
          obtain ⟨g, rfl, rfl, HO8⟩ := hcut
          clear b0 b1 b2 r0 r1 r2 z0 z1 z2 c0 c0w l0 l1 HCTR HG0 HG1 HB3 HBW HB3w HRS hba hgb hw0 hw1 hw2 hw3 hglt
          obtain ⟨hgt, hrs, hB, hbk⟩ := HO8.out
          obtain ⟨r0, r1, r2, z0, z1, z2⟩ := three_at hrs
          obtain ⟨b0, b1, b2, _, _, _⟩ := three_at hbk
          have HRS := Lib.hid hrs; have HB := Lib.hid hB
          clear hrs hB hbk HO8
          go_wp2_with fail
          go_region_with (refine (HCD.out _).mono ?_; rintro e w' ⟨rfl, rfl⟩)
          all_goals
            go_wp2_with fail
            refine bodyPost_ret (res_cell_tmp rfl _ _ (w.heap.size + 1) 23 _ (0, 0) _ rfl (set3 HRS.out) Tryz.underlying23 rfl (by kernel_rfl)) rfl ?_
            first | exact ⟨by rw [HR2.out]; rfl, below_set3' HB.out.drew⟩ | exact ⟨by rw [HR2.out]; rfl, below_set3' HB.out⟩
      have u1 : (a == [99, 117, 116]) = false := by simpa using hcut
      by_cases hcr : a = [99, 114, 97, 115, 104]
      rotate_left
      · have HR2 : Hid (R = (⟨now, txt, many⟩, badM)) := Lib.hid (HO.out (fun h => hcut h.1) (fun h => hcr h.1))
        have u2 : (a == [99, 114, 97, 115, 104]) = false := by simpa using hcr
        clear HF HNS HC HR3 HCUT HCR HO hcut hcr
        go_wp2_with fail
        refine bodyPost_ret (res_cell_tmp rfl _ _ (w.heap.size + 1) 23 _ (0, 0) _ rfl (set3 HRS.out) Tryz.underlying23 rfl (by kernel_rfl)) rfl ?_
        exact ⟨by rw [HR2.out]; rfl, below_set3' HBW.out⟩
      subst hcr
      by_cases hn1 : r.length = 1
      rotate_left
      · have HR2 : Hid (R = (⟨now, txt, many⟩, badM)) := Lib.hid (HO.out (fun h => hcut h.1) (fun h => hn1 h.2))
        have t1 : ¬ (r.length : Int) = 1 := by omega
        have t2 : ((r.length : Int) == 1) = false := by simpa using t1
        have t3 : (r.length == 1) = false := by simpa using hn1
        clear HF HNS HC HR3 HCUT HCR HO hcut
        go_wp2_with fail
        refine bodyPost_ret (res_cell_tmp rfl _ _ (w.heap.size + 1) 23 _ (0, 0) _ rfl (set3 HRS.out) Tryz.underlying23 rfl (by kernel_rfl)) rfl ?_
        exact ⟨by rw [HR2.out]; rfl, below_set3' HBW.out⟩
      obtain ⟨n, rfl⟩ : ∃ n, ns = [n] := by
        match ns, hni.trans hn1 with
        | [n], _ => exact ⟨n, rfl⟩
      have HR2 : Hid (R = crashA ⟨now, txt, many⟩ n) := Lib.hid (HCR.out rfl n hn1 (HNS.out 0 (by omega)))
      have HCA : Hid (crashA ⟨now, txt, many⟩ n = if (openR (txt.take n)).2.2 = 0 then ((openR (txt.take n)).1, [102, 111, 117, 110, 100, 32] ++ Lib.decDigits (openR (txt.take n)).2.1) else (⟨now, txt, many⟩, toldM (openR (txt.take n)).2.2)) := Lib.hid rfl
      have HOP := Lib.hid (fun W => openR_any (txt.take n) W (by rw [List.length_take]; omega))
      have HOM := Lib.hid (openR_many (txt.take n))
      have htk : txt.take n = txt.take (min n txt.length) := by
        rcases Nat.le_total n txt.length with h | h
        · rw [Nat.min_eq_left h]
        · rw [Nat.min_eq_right h, List.take_of_length_le h, List.take_of_length_le (Nat.le_refl _)]
      have hx2 := str_to txt (min n txt.length)
      rw [← htk] at hx2
      have hown := HOWN.out
      rw [hn1] at hown
      obtain ⟨gl, cl, og, ev, hgl, hgo, l0⟩ := own_num hown
      injection ev with ev1 _ ev2
      subst ev1 ev2
      rw [hn1]
      generalize crashA ⟨now, txt, many⟩ n = CA at *
      obtain rfl := HR2.out
      generalize openR (txt.take n) = q at *
      obtain ⟨s', m1, e0⟩ := q
      generalize txt.take n = T at *
      have HCD := Lib.hid (fun W => called_any e0 W)
      have HDG := Lib.hid (fun W => digits_gen m1 W (by have := HOM.out; first | omega | (simp only [] at this; omega)))
      clear hown HOWN HF HNS HC HR3 HCUT HCR HO hgo HR2 htk hcut
      by_cases hnl2 : txt.length < n
      all_goals
        first
          | (have d1 : (txt.length : Int) < (n : Int) := by omega
             rw [Nat.min_eq_right (by omega)] at hx2)
          | (have d1 : ¬ (txt.length : Int) < (n : Int) := by omega
             have d2 : (n : Int) ≤ (txt.length : Int) := by omega
             rw [Nat.min_eq_left (by omega)] at hx2)
        go_wp2_with fail
        refine (HOP.out _).mono ?_
        rintro e w6 ⟨rfl, hb6⟩
        have HO8 := Lib.hid (AR.one (s' := s') HRS.out HBW.out hb6)
        have hx8 := heap_alloc_new w6 (bObj s')
        have h68 : w6.heap.size < (w6.alloc (bObj s')).heap.size := by simp
        clear b0 b1 b2 r0 r1 r2 z0 z1 z2 c0w l0 HOP hx2
        have hbs6 : w6.heap[w.heap.size]? = some (bObj ⟨now, txt, many⟩) := ((hb6.block _ hw2).trans (HB3w.out.block _ hw0)).trans HG0.out
        have hbs8 : (w6.alloc (bObj s')).heap[w.heap.size]? = some (bObj ⟨now, txt, many⟩) := (Lib.alloc_old _ _ _ (Array.getElem?_eq_some_iff.1 hbs6).1).trans hbs6
        obtain ⟨hgt, hrs, hB, hbk⟩ := HO8.out
        obtain ⟨r0, r1, r2, z0, z1, z2⟩ := three_at hrs
        obtain ⟨b0, b1, b2, _, _, _⟩ := three_at hbs8
        obtain ⟨x0, x1, x2, _, _, _⟩ := three_at hbk
        have HRS8 := Lib.hid hrs; have HB8 := Lib.hid hB
        clear hb6 hrs hB hbk hx8 HO8 hbs6 hbs8 c0 hw0 hw1 hw2 hw3 hba hgb HRS HBW HB3w HG0 HG1 HB3
        by_cases he : e0 = 0
        · have HR3 : Hid (R = (s', [102, 111, 117, 110, 100, 32] ++ Lib.decDigits m1)) := Lib.hid (by rw [HCA.out, if_pos he])
          subst he
          have hdl := dd_len20 (n := m1) (by have := HOM.out; first | omega | (simp only [] at this; omega))
          generalize Lib.decDigits m1 = D at *
          have hov : ¬ 9223372036854775807 < 6 + D.length := by omega
          clear HCA HCD
          go_wp2_with fail
          generalize w6.alloc (bObj s') = w8 at *
          go_region_with (refine (HDG.out _).mono ?_; rintro e w' ⟨rfl, rfl⟩)
          all_goals
            go_wp2_with fail
            refine bodyPost_ret (res_cell_tmp rfl _ _ (w.heap.size + 1) 23 _ (0, 0) _ rfl (set3 HRS8.out) Tryz.underlying23 rfl (by kernel_rfl)) rfl ?_
            first | exact ⟨by rw [HR3.out]; rfl, below_set3' HB8.out.drew⟩ | exact ⟨by rw [HR3.out]; rfl, below_set3' HB8.out⟩
        · have HR3 : Hid (R = (⟨now, txt, many⟩, toldM e0)) := Lib.hid (by rw [HCA.out, if_neg he])
          have v1 : (e0 == 0) = false := by simpa using he
          have v2 : (e0 != 0) = true := by simpa using he
          clear HCA HDG
          go_wp2_with fail
          generalize w6.alloc (bObj s') = w8 at *
          go_region_with (refine (HCD.out _).mono ?_; rintro e w' ⟨rfl, rfl⟩)
          all_goals
            go_wp2_with fail
            refine bodyPost_ret (res_cell_tmp rfl _ _ (w.heap.size + 1) 23 _ (0, 0) _ rfl (set3 HRS8.out) Tryz.underlying23 rfl (by kernel_rfl)) rfl ?_
            first | exact ⟨by rw [HR3.out]; rfl, below_set3' HB8.out.drew⟩ | exact ⟨by rw [HR3.out]; rfl, below_set3' HB8.out⟩
end Go.Proofs.YteoofkinmilckaaGreatDoor
