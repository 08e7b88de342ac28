/- LeastSays: of any machines the least one, the shortest text, and whether both take the same. Condition: the program's one listed variable reads as laid. -/
import Derived.Test.YtfglajddibjnjaaDoorLsAt
import Derived.Test.YtfglajddibjnjaaDoorLsZ
import Derived.Test.YtfglajddibjnjaaDoorLsSm
import Derived.Test.YtfglajddibjnjaaDoorLsSh
import Derived.Test.YtfglajddibjnjaaDoorLsS3
namespace Go.Proofs.YtfglajddibjnjaaDoor
open Go.RowKit IntWalk
set_option linter.unusedSimpArgs false
attribute [local go_sem] byte_at str_app
attribute [local go_sem ↓] Go.wp_at_zero Go.wp_at_succ

def E0 : Mc := ⟨[], [], []⟩
theorem mac0 (w : World) (B : Nat) : MacW w B none 0 none 0 E0 := ⟨⟨rfl, fun h => absurd h (by omega)⟩, ⟨rfl, fun h => absurd h (by omega)⟩⟩

set_option maxRecDepth 100000 in
set_option maxHeartbeats 8000000 in
theorem leastSays_walk (M M2 : Mc) (A A2 A' A2' : Option Addr) (n c m c2 n' c' m' c2' : Nat) (W0 : World) (hM : MacW W0 W0.heap.size A n A2 m M) (hM' : MacW W0 W0.heap.size A' n' A2' m' M2) (hg : HG W0) :
    Calls Tryd.prog 3 #[mcv M.sg A n c A2 m c2, mcv M2.sg A' n' c' A2' m' c2'] W0 fun e w' => e = .returned (.bool true) ∧ Below W0.heap.size W0 w' := by
  have h0 := At3.new W0 M.sg A n c A2 m c2
  have hb0 := (Below.refl W0.heap.size W0).alloc (Nat.le_refl _) (.cells #[S M.sg, .slice A n c, .slice A2 m c2] 25)
  generalize hw1 : W0.alloc (.cells #[S M.sg, .slice A n c, .slice A2 m c2] 25) = w1 at *
  have hz1 : w1.heap.size = W0.heap.size + 1 := by rw [← hw1]; simp
  have h1 := At3.new w1 M2.sg A' n' c' A2' m' c2'
  have h0' : At3 (w1.alloc (.cells #[S M2.sg, .slice A' n' c', .slice A2' m' c2'] 25)) W0.heap.size M.sg A n c A2 m c2 := h0.below ((Below.refl w1.heap.size w1).alloc (Nat.le_refl _) _) (by omega)
  have hb1 := hb0.alloc (by omega) (.cells #[S M2.sg, .slice A' n' c', .slice A2' m' c2'] 25)
  rw [hz1] at h1
  generalize hw2 : w1.alloc (.cells #[S M2.sg, .slice A' n' c', .slice A2' m' c2'] 25) = w2 at *
  have hz2 : w2.heap.size = W0.heap.size + 2 := by rw [← hw2]; simp [hz1]
  have HK : Hid (∀ W, Below w2.heap.size w2 W → At3 W W0.heap.size M.sg A n c A2 m c2 ∧ At3 W (W0.heap.size + 1) M2.sg A' n' c' A2' m' c2' ∧ Below W0.heap.size W0 W ∧ MacW W W0.heap.size A n A2 m M ∧ MacW W W0.heap.size A' n' A2' m' M2 ∧ HG W ∧ W0.heap.size ≤ W.heap.size) := Lib.hid fun W hb => by
    have hbb := hb1.trans (hb.mono hb1.size)
    exact ⟨h0'.below hb (by omega), h1.below hb (by omega), hbb, hM.below hbb, hM'.below hbb, hg.below hbb (Nat.le_refl _), hbb.size⟩
  have HZ := Lib.hid hz2
  obtain ⟨a0, a1, a2⟩ := h0'.cells
  have HWR := Lib.hid (wrong_any M A A2 n c m c2 W0.heap.size w2 (HK.out w2 (Below.refl _ _)).2.2.2.1 hb1.size)
  clear h0 h1 h0' hb0 hb1 hM hM' hg hz2
  go_enter Tryd.func3, Tryd.ntmps3
  go_wp2_with fail
  clear hw1 hw2 hz1 a0 a1 a2
  refine HWR.out.mono ?_
  rintro e w3 ⟨rfl, hb3⟩
  have HB3 := Lib.hid (show Below w2.heap.size w2 w3 from hb3)
  have h4 := At3.new w3 [] none 0 0 none 0 0
  have hb4 : Below w2.heap.size w2 (w3.alloc (.cells #[S [], .slice none 0 0, .slice none 0 0] 25)) := hb3.alloc hb3.size _
  generalize hw4 : w3.alloc (.cells #[S [], .slice none 0 0, .slice none 0 0] 25) = w4 at *
  have hz4 : w4.heap.size = w3.heap.size + 1 := by rw [← hw4]; simp
  have HB4 := Lib.hid hb4
  have HW4 := Lib.hid h4
  have HZ4 : Hid (w4.heap.size = w3.heap.size + 1 ∧ w2.heap.size ≤ w3.heap.size) := Lib.hid ⟨hz4, hb3.size⟩
  obtain ⟨a0, a1, a2⟩ := (HK.out w4 hb4).1.cells
  clear hb3 hb4 HWR hz4 h4
  by_cases hw : M.wrong = 0
  · have q0 : (M.wrong == 0) = true := by rw [hw]; rfl
    have HO := Lib.hid (Mc.wrong_zero.1 hw)
    have HW := Lib.hid hw
    rw [hw]
    clear hw
    go_wp2_with fail
    clear hw4 a0 a1 a2
    refine Calls.mono (smallest_any M HO.out A A2 n c m c2 W0.heap.size w4 (HK.out w4 HB4.out).2.2.2.1 (HK.out w4 HB4.out).2.2.2.2.2.2) ?_
    rintro e w5 ⟨⟨Aw, kw, Aw2, kw2, rfl, hmw⟩, hb5⟩
    have hk5 : Below w2.heap.size w2 w5 := HB4.out.trans (hb5.mono HB4.out.size)
    have hw5 := HW4.out.below hb5 HW4.out.lt
    have hz5 := hb5.size
    obtain ⟨r0, r1, r2, f0, f1, f2⟩ := three_atL hw5
    have h6 : At3 (((w5.setCell ⟨w3.heap.size, 0, none⟩ (S M.sg)).setCell ⟨w3.heap.size, 1, none⟩ (.slice Aw M.least.n kw)).setCell ⟨w3.heap.size, 2, none⟩ (.slice Aw2 M.least.n kw2)) w3.heap.size M.sg Aw M.least.n kw Aw2 M.least.n kw2 := set3L hw5
    have hfar : ∀ k, k ≠ w3.heap.size → (((w5.setCell ⟨w3.heap.size, 0, none⟩ (S M.sg)).setCell ⟨w3.heap.size, 1, none⟩ (.slice Aw M.least.n kw)).setCell ⟨w3.heap.size, 2, none⟩ (.slice Aw2 M.least.n kw2)).heap[k]? = w5.heap[k]? := fun k hk => by
      rw [Below.heap_setCell _ _ _ k hk, Below.heap_setCell _ _ _ k hk, Below.heap_setCell _ _ _ k hk]
    have hk6 : Below w2.heap.size w2 (((w5.setCell ⟨w3.heap.size, 0, none⟩ (S M.sg)).setCell ⟨w3.heap.size, 1, none⟩ (.slice Aw M.least.n kw)).setCell ⟨w3.heap.size, 2, none⟩ (.slice Aw2 M.least.n kw2)) :=
      ((hk5.setCell (p := ⟨w3.heap.size, 0, none⟩) HZ4.out.2 _).setCell (p := ⟨w3.heap.size, 1, none⟩) HZ4.out.2 _).setCell (p := ⟨w3.heap.size, 2, none⟩) HZ4.out.2 _
    have hsz6 : (((w5.setCell ⟨w3.heap.size, 0, none⟩ (S M.sg)).setCell ⟨w3.heap.size, 1, none⟩ (.slice Aw M.least.n kw)).setCell ⟨w3.heap.size, 2, none⟩ (.slice Aw2 M.least.n kw2)).heap.size = w5.heap.size := by simp [World.setCell]
    generalize hw6 : ((w5.setCell ⟨w3.heap.size, 0, none⟩ (S M.sg)).setCell ⟨w3.heap.size, 1, none⟩ (.slice Aw M.least.n kw)).setCell ⟨w3.heap.size, 2, none⟩ (.slice Aw2 M.least.n kw2) = w6 at *
    have HMW : Hid (∀ W, Below w6.heap.size w6 W → MacW W W.heap.size Aw M.least.n Aw2 M.least.n M.least) := Lib.hid fun W hb => hmw W fun k hk hl => (hb.block k (by omega)).trans (hfar k (by have := HZ4.out.1; omega))
    have HK6 := Lib.hid hk6
    have HW6 := Lib.hid (And.intro h6 h6.lt)
    obtain ⟨a0, a1, a2⟩ := (HK.out w6 hk6).1.cells
    clear hb5 hk5 hw5 hz5 hmw h6 hfar hk6 hsz6
    go_wp2_with fail
    clear hw6 r0 r1 r2 f0 f1 f2 a0 a1 a2
    refine Calls.mono (shortest_any M HO.out A A2 n c m c2 W0.heap.size w6 (HK.out w6 HK6.out).2.2.2.1 (HK.out w6 HK6.out).2.2.2.2.2.2) ?_
    rintro e w7 ⟨⟨_ | t, hr, he⟩, hb7⟩
    · have he' : e = .returned (.tuple #[S [], .bool false]) := he
      clear he
      subst he'
      have HRUN := Lib.hid hr
      have HK7 := Lib.hid (HK6.out.trans (hb7.mono HK6.out.size))
      have HW7 := Lib.hid (And.intro (HW6.out.1.below hb7 HW6.out.2) (HW6.out.1.below hb7 HW6.out.2).lt)
      have HMW7 : Hid (∀ W, Below w7.heap.size w7 W → MacW W W.heap.size Aw M.least.n Aw2 M.least.n M.least) := Lib.hid fun W hb => HMW.out W (hb7.trans (hb.mono hb7.size))
      obtain ⟨a0, a1, a2⟩ := (HK.out w7 HK7.out).1.cells
      clear hb7 hr HMW HW6
      go_wp2_with fail
      clear a0 a1 a2
      refine Calls.mono (of_ok M HO.out A A2 n c m c2 W0.heap.size w7 (HK.out w7 HK7.out).2.2.2.1 (HK.out w7 HK7.out).2.2.2.2.2.2) ?_
      rintro e w8 ⟨⟨A3, k3, A4, k4, rfl, hm8⟩, hb8⟩
      have h9 := At3.new w8 M.sg A3 M.least.n k3 A4 M.least.n k4
      have hb9 : Below w7.heap.size w7 (w8.alloc (.cells #[S M.sg, .slice A3 M.least.n k3, .slice A4 M.least.n k4] 25)) := hb8.alloc hb8.size _
      have hm9 := (hm8.below ((Below.refl w8.heap.size w8).alloc (Nat.le_refl _) (.cells #[S M.sg, .slice A3 M.least.n k3, .slice A4 M.least.n k4] 25))).more (B' := (w8.alloc (.cells #[S M.sg, .slice A3 M.least.n k3, .slice A4 M.least.n k4] 25)).heap.size) (by simp)
      generalize hw9 : w8.alloc (.cells #[S M.sg, .slice A3 M.least.n k3, .slice A4 M.least.n k4] 25) = w9 at *
      have HX9 := Lib.hid (And.intro h9 h9.lt)
      have HM9 := Lib.hid hm9
      have HB79 := Lib.hid hb9
      have HK9 := Lib.hid (HK7.out.trans (hb9.mono HK7.out.size))
      have HE9 := Lib.hid (error_any 0 0 w9 (HK.out w9 HK9.out).2.2.2.2.2.1)
      rw [show errV 0 = .nilIface from rfl, beq_self_eq_true] at HE9
      clear hb8 hm8 h9 hb9 hm9
      go_wp2_with fail
      clear hw9
      refine HE9.out.mono ?_
      rintro e w10 ⟨rfl, hb10⟩
      have HK10 := Lib.hid (HK9.out.trans (hb10.mono HK9.out.size))
      have hx10 := HX9.out.1.below hb10 HX9.out.2
      have hb710 : Below w7.heap.size w7 w10 := HB79.out.trans (hb10.mono HB79.out.size)
      have hw10 := HW7.out.1.below hb710 HW7.out.2
      obtain ⟨b0, b1, b2⟩ := hx10.cells
      obtain ⟨d0, d1, d2⟩ := hw10.cells
      have hm10 := (HM9.out.below hb10).more hb10.size
      have hmw10 := HMW7.out w10 hb710
      have hsm := smM_any M.least M.least A3 A4 Aw Aw2 M.least.n k3 M.least.n k4 M.least.n kw M.least.n kw2 w10.heap.size w10 hm10 hmw10 (Nat.le_refl _) (by have := Mc.least_le HO.out; have := HO.out.small; omega) (by have := Mc.least_le HO.out; have := HO.out.small; omega) (fun i hi => by have h1 := (Mc.least_ok HO.out).row i hi; have h2 := (Mc.least_ok HO.out).few; omega)
      rw [show decide (M.least = M.least) = true from decide_eq_true rfl] at hsm
      have HSM := Lib.hid hsm
      clear hb10 hx10 hw10 hsm hm10 hmw10 HE9 hb710
      go_wp2_with fail
      clear b0 b1 b2 d0 d1 d2
      refine HSM.out.mono ?_
      rintro e w11 ⟨rfl, hb11⟩
      have HK11 := Lib.hid (HK10.out.trans (hb11.mono HK10.out.size))
      obtain ⟨a0, a1, a2⟩ := (HK.out w11 HK11.out).1.cells
      have HAN : Hid (Calls Tryd.prog 11 #[mcv M.sg A n c A2 m c2] w11 fun e w' => e = .returned (.tuple #[S [], .iface 54 (.int .i64 5)]) ∧ Below w11.heap.size w11 w') := Lib.hid ((any_ok M HO.out A A2 n c m c2 W0.heap.size w11 (HK.out w11 HK11.out).2.2.2.1 (HK.out w11 HK11.out).2.2.2.2.2.2).mono fun e w' ⟨⟨r', hr', he'⟩, hb'⟩ => by
        have e1 := HRUN.out.det hr'
        subst e1
        exact ⟨he', hb'⟩)
      clear hb11 HSM HM9 HX9 HB79 HMW7 HW7
      go_wp2_with fail
      clear a0 a1 a2
      refine HAN.out.mono ?_
      rintro e w12 ⟨rfl, hb12⟩
      have HK12 := Lib.hid (HK11.out.trans (hb12.mono HK11.out.size))
      have HE14 := Lib.hid (error_any 5 5 w12 (HK.out w12 HK12.out).2.2.2.2.2.1)
      rw [err_ne (by decide : (5 : Int) ≠ 0)] at HE14
      rw [beq_self_eq_true] at HE14
      clear hb12 HAN
      go_wp2_with fail
      refine HE14.out.mono ?_
      rintro e w13 ⟨rfl, hb13⟩
      have HK13 := Lib.hid (HK12.out.trans (hb13.mono HK12.out.size))
      obtain ⟨b0, b1, b2⟩ := (HK.out w13 HK13.out).2.1.cells
      have HWR2 := Lib.hid (wrong_any M2 A' A2' n' c' m' c2' W0.heap.size w13 (HK.out w13 HK13.out).2.2.2.2.1 (HK.out w13 HK13.out).2.2.2.2.2.2)
      clear hb13 HE14
      go_wp2_with fail
      clear b0 b1 b2
      refine HWR2.out.mono ?_
      rintro e w14 ⟨rfl, hb14⟩
      have HK14 := Lib.hid (HK13.out.trans (hb14.mono HK13.out.size))
      clear hb14 HWR2
      obtain ⟨a0, a1, a2⟩ := (HK.out w14 HK14.out).1.cells
      obtain ⟨b0, b1, b2⟩ := (HK.out w14 HK14.out).2.1.cells
      by_cases hw2 : M2.wrong = 0
      · have HO2 := Lib.hid (Mc.wrong_zero.1 hw2)
        have HWW := Lib.hid hw2
        rw [hw2]
        clear hw2
        by_cases hs : M.sg = M2.sg
        · have HSG := Lib.hid hs
          have hse := same_mc HO.out HO2.out hs
          have HSE := Lib.hid hse
          rw [← hs] at b0
          have HS : Hid (∀ W, Below w2.heap.size w2 W → ((W.cell? ⟨W0.heap.size, 0, none⟩ = some (S M.sg) ∧ W.cell? ⟨W0.heap.size, 1, none⟩ = some (.slice A n c) ∧ W.cell? ⟨W0.heap.size, 2, none⟩ = some (.slice A2 m c2)) ∧ (W.cell? ⟨W0.heap.size + 1, 0, none⟩ = some (S M2.sg) ∧ W.cell? ⟨W0.heap.size + 1, 1, none⟩ = some (.slice A' n' c') ∧ W.cell? ⟨W0.heap.size + 1, 2, none⟩ = some (.slice A2' m' c2'))) ∧ Below w2.heap.size w2 W) := Lib.hid fun W hb => ⟨⟨(HK.out W hb).1.cells, (HK.out W hb).2.1.cells⟩, hb⟩
          have HSMA : Hid (∀ W, Below w2.heap.size w2 W → Calls Tryd.prog 6 #[mcv M.sg A n c A2 m c2] W fun e w' => (∃ A' k' A2' k2', e = .returned (mcv M.sg A' M.least.n k' A2' M.least.n k2') ∧ ∀ V : World, (∀ k, W.heap.size ≤ k → k < w'.heap.size → V.heap[k]? = w'.heap[k]?) → MacW V V.heap.size A' M.least.n A2' M.least.n M.least) ∧ Below W.heap.size W w') := Lib.hid fun W hb => smallest_any M HO.out A A2 n c m c2 W0.heap.size W (HK.out W hb).2.2.2.1 (HK.out W hb).2.2.2.2.2.2
          have HSMB : Hid (∀ W, Below w2.heap.size w2 W → Calls Tryd.prog 6 #[mcv M2.sg A' n' c' A2' m' c2'] W fun e w' => (∃ A' k' A2' k2', e = .returned (mcv M2.sg A' M2.least.n k' A2' M2.least.n k2') ∧ ∀ V : World, (∀ k, W.heap.size ≤ k → k < w'.heap.size → V.heap[k]? = w'.heap[k]?) → MacW V V.heap.size A' M2.least.n A2' M2.least.n M2.least) ∧ Below W.heap.size W w') := Lib.hid fun W hb => smallest_any M2 HO2.out A' A2' n' c' m' c2' W0.heap.size W (HK.out W hb).2.2.2.2.1 (HK.out W hb).2.2.2.2.2.2
          have HSS : Hid (∀ (P1 P2 P3 P4 : Option Addr) (p1 p2 p3 p4 : Nat) (W : World), MacW W W.heap.size P1 M.least.n P2 M.least.n M.least → MacW W W.heap.size P3 M2.least.n P4 M2.least.n M2.least → Calls Tryd.prog 12 #[mcv M.sg P1 M.least.n p1 P2 M.least.n p2, mcv M2.sg P3 M2.least.n p3 P4 M2.least.n p4] W fun e w' => e = .returned (.bool (decide (M.least = M2.least))) ∧ Below W.heap.size W w') := Lib.hid fun P1 P2 P3 P4 p1 p2 p3 p4 W g1 g2 => same3_any M.least M2.least HSG.out P1 P2 P3 P4 M.least.n p1 p2 M2.least.n p3 p4 W.heap.size W g1 g2 (Nat.le_refl _) (by have := Mc.least_le HO.out; have := HO.out.small; omega) (fun i hi => by have h1 := (Mc.least_ok HO.out).row i hi; have h2 := (Mc.least_ok HO.out).few; omega)
          clear hse hs
          go_upto_region 21 with fail
          clear a0 a1 a2 b0 b1 b2
          refine wp_region_held_drew (S := (fun W => ((W.cell? ⟨W0.heap.size, 0, none⟩ = some (S M.sg) ∧ W.cell? ⟨W0.heap.size, 1, none⟩ = some (.slice A n c) ∧ W.cell? ⟨W0.heap.size, 2, none⟩ = some (.slice A2 m c2)) ∧ (W.cell? ⟨W0.heap.size + 1, 0, none⟩ = some (S M2.sg) ∧ W.cell? ⟨W0.heap.size + 1, 1, none⟩ = some (.slice A' n' c') ∧ W.cell? ⟨W0.heap.size + 1, 2, none⟩ = some (.slice A2' m' c2'))) ∧ Below w2.heap.size w2 W)) (by first | assumption | kernel_rfl | rfl) (HS.out _ HK14.out.drew) (fun hH => ?_)
          refine wpAnyH_take (i := 0) (v := ?_) rfl (by kernel_rfl) (by kernel_rfl) (by kernel_rfl) (fun _ _ _ h => h) (Or.inl ⟨by rfl, ?_⟩) hH ?_
          rotate_left
          · intro W hSw; (try dsimp only at hSw); go_simp; try with_reducible rfl
          try simp only [Act.put, List.getElem_toArray, List.getElem_cons_zero, List.getElem_cons_succ, List.setIfInBounds_toArray, List.set_cons_zero, List.set_cons_succ]
          refine wpAnyH_take (i := 2) (v := ?_) rfl (by kernel_rfl) (by kernel_rfl) (by kernel_rfl) (fun _ _ _ h => h) (Or.inl ⟨by rfl, ?_⟩) hH ?_
          rotate_left
          · intro W hSw; (try dsimp only at hSw); go_simp; try with_reducible rfl
          try simp only [Act.put, List.getElem_toArray, List.getElem_cons_zero, List.getElem_cons_succ, List.setIfInBounds_toArray, List.set_cons_zero, List.set_cons_succ]
          refine wpAnyH_ready (rs := [1]) (by kernel_rfl) (by simp) (AllReadyH.cons rfl (fun K hK => ?_) AllReadyH.nil)
          go_simp
          (with_reducible refine Calls.mono (HSMA.out _ hH.2) ?_)
          rintro e w15 ⟨⟨P1, p1, P2, p2, rfl, hm15⟩, hb15⟩
          go_wp2_with fail
          refine hK.out _ _ (HS.out _ (hH.2.trans (hb15.mono hH.2.size))) (fun hGw15 => ?_)
          clear hK K
          try simp only [Act.put, List.getElem_toArray, List.getElem_cons_zero, List.getElem_cons_succ, List.setIfInBounds_toArray, List.set_cons_zero, List.set_cons_succ]
          refine wpAnyH_ready (rs := [3]) (by kernel_rfl) (by simp) (AllReadyH.cons rfl (fun K hK => ?_) AllReadyH.nil)
          go_simp
          (with_reducible refine Calls.mono (HSMB.out _ hGw15.2) ?_)
          rintro e w16 ⟨⟨P3, p3, P4, p4, rfl, hm16⟩, hb16⟩
          go_wp2_with fail
          refine hK.out _ _ (HS.out _ (hGw15.2.trans (hb16.mono hGw15.2.size))) (fun hGw16 => ?_)
          clear hK K
          try simp only [Act.put, List.getElem_toArray, List.getElem_cons_zero, List.getElem_cons_succ, List.setIfInBounds_toArray, List.set_cons_zero, List.set_cons_succ]
          refine wpAnyH_ready (rs := [4]) (by kernel_rfl) (by simp) (AllReadyH.cons rfl (fun K hK => ?_) AllReadyH.nil)
          go_simp
          (with_reducible refine Calls.mono (HSS.out _ _ _ _ _ _ _ _ _ (hm15 w16 (fun k hk hl => hb16.block k hl)) (hm16 w16 (fun k _ _ => rfl))) ?_)
          rintro e w17 ⟨rfl, hb17⟩
          go_wp2_with fail
          refine hK.out _ _ (HS.out _ (hGw16.2.trans (hb17.mono hGw16.2.size))) (fun hH17 => ?_)
          clear hK K
          try simp only [Act.put, List.getElem_toArray, List.getElem_cons_zero, List.getElem_cons_succ, List.setIfInBounds_toArray, List.set_cons_zero, List.set_cons_succ]
          refine wpAnyH_take (i := 5) (v := ?_) rfl (by kernel_rfl) (by kernel_rfl) (by kernel_rfl) (fun _ _ _ h => h) (Or.inl ⟨by rfl, ?_⟩) hH17 ?_
          rotate_left
          · intro W hSw; (try dsimp only at hSw); go_simp; try with_reducible rfl
          try simp only [Act.put, List.getElem_toArray, List.getElem_cons_zero, List.getElem_cons_succ, List.setIfInBounds_toArray, List.set_cons_zero, List.set_cons_succ]
          refine wpAnyH_done (by kernel_rfl) ?_ _
          have HK17 := Lib.hid hH17.2
          obtain ⟨a0, a1, a2⟩ := (HK.out w17 HK17.out).1.cells
          obtain ⟨b0, b1, b2⟩ := (HK.out w17 HK17.out).2.1.cells
          have HSA := Lib.hid (same_any M M2 A A2 A' A2' n c m c2 n' c' m' c2' W0.heap.size w17 (HK.out w17 HK17.out).2.2.2.1 (HK.out w17 HK17.out).2.2.2.2.1 (HK.out w17 HK17.out).2.2.2.2.2.2)
          rw [HSE.out.1, HSE.out.2, show errV 0 = .nilIface from rfl] at HSA
          clear hH hGw15 hGw16 hH17 hb15 hb16 hb17 hm15 hm16 HS HSMA HSMB HSS HSE
          generalize decide (M.least = M2.least) = db at *
          go_wp2_with fail
          clear a0 a1 a2 b0 b1 b2
          refine HSA.out.mono ?_
          rintro e w18 ⟨rfl, hb18⟩
          have HK18 := Lib.hid (HK17.out.trans (hb18.mono HK17.out.size))
          have HER := Lib.hid (error_any 0 0 w18 (HK.out w18 HK18.out).2.2.2.2.2.1)
          rw [show errV 0 = .nilIface from rfl, beq_self_eq_true] at HER
          clear hb18 HSA
          go_wp2_with fail
          refine HER.out.mono ?_
          rintro e w19 ⟨rfl, hb19⟩
          have HK19 := Lib.hid (HK18.out.trans (hb19.mono HK18.out.size))
          clear hb19 HER
          go_wp2_with fail
          go_ret
          exact ⟨by simp, (HK.out w19 HK19.out).2.2.1⟩
        · have HSE : Hid (sameE M M2 = 3 ∧ sameB M M2 = false) := Lib.hid ⟨by unfold sameE; rw [if_neg (fun h => h HW.out), if_neg (fun h => h HWW.out), if_pos hs], by unfold sameB; exact decide_eq_false fun h => hs h.2.2.1⟩
          have hd : (M.sg == M2.sg) = false := by simp [hs]
          have HSA := Lib.hid (same_any M M2 A A2 A' A2' n c m c2 n' c' m' c2' W0.heap.size w14 (HK.out w14 HK14.out).2.2.2.1 (HK.out w14 HK14.out).2.2.2.2.1 (HK.out w14 HK14.out).2.2.2.2.2.2)
          rw [HSE.out.1, HSE.out.2, err_ne (by decide : (3 : Int) ≠ 0)] at HSA
          clear hs
          go_wp2_with fail
          clear a0 a1 a2 b0 b1 b2 hd
          refine HSA.out.mono ?_
          rintro e w15 ⟨rfl, hb15⟩
          have HK15 := Lib.hid (HK14.out.trans (hb15.mono HK14.out.size))
          have HER := Lib.hid (error_any 3 3 w15 (HK.out w15 HK15.out).2.2.2.2.2.1)
          rw [err_ne (by decide : (3 : Int) ≠ 0), beq_self_eq_true] at HER
          clear hb15 HSA
          go_wp2_with fail
          refine HER.out.mono ?_
          rintro e w16 ⟨rfl, hb16⟩
          have HK16 := Lib.hid (HK15.out.trans (hb16.mono HK15.out.size))
          clear hb16 HER
          go_wp2_with fail
          go_ret
          exact ⟨rfl, (HK.out w16 HK16.out).2.2.1⟩
      · have q2 : (M2.wrong == 0) = false := by simp [hw2]
        have HSE : Hid (sameE M M2 = M2.wrong ∧ sameB M M2 = false) := Lib.hid ⟨by unfold sameE; rw [if_neg (fun h => h HW.out), if_pos hw2], by unfold sameB; exact decide_eq_false fun h => hw2 h.2.1⟩
        have HWW := Lib.hid hw2
        have HSA := Lib.hid (same_any M M2 A A2 A' A2' n c m c2 n' c' m' c2' W0.heap.size w14 (HK.out w14 HK14.out).2.2.2.1 (HK.out w14 HK14.out).2.2.2.2.1 (HK.out w14 HK14.out).2.2.2.2.2.2)
        rw [HSE.out.1, HSE.out.2, err_ne hw2] at HSA
        clear hw2
        go_wp2_with fail
        clear a0 a1 a2 b0 b1 b2
        refine HSA.out.mono ?_
        rintro e w15 ⟨rfl, hb15⟩
        have HK15 := Lib.hid (HK14.out.trans (hb15.mono HK14.out.size))
        have HER := Lib.hid (error_any M2.wrong M2.wrong w15 (HK.out w15 HK15.out).2.2.2.2.2.1)
        rw [err_ne HWW.out, beq_self_eq_true] at HER
        clear hb15 HSA
        go_wp2_with fail
        refine HER.out.mono ?_
        rintro e w16 ⟨rfl, hb16⟩
        have HK16 := Lib.hid (HK15.out.trans (hb16.mono HK15.out.size))
        clear hb16 HER
        go_wp2_with fail
        go_ret
        exact ⟨rfl, (HK.out w16 HK16.out).2.2.1⟩
    · have he' : e = .returned (.tuple #[S t, .bool true]) := he
      clear he
      subst he'
      have HRUN := Lib.hid hr
      have HK7 := Lib.hid (HK6.out.trans (hb7.mono HK6.out.size))
      have HW7 := Lib.hid (And.intro (HW6.out.1.below hb7 HW6.out.2) (HW6.out.1.below hb7 HW6.out.2).lt)
      have HMW7 : Hid (∀ W, Below w7.heap.size w7 W → MacW W W.heap.size Aw M.least.n Aw2 M.least.n M.least) := Lib.hid fun W hb => HMW.out W (hb7.trans (hb.mono hb7.size))
      obtain ⟨a0, a1, a2⟩ := (HK.out w7 HK7.out).1.cells
      clear hb7 hr HMW HW6
      go_wp2_with fail
      clear a0 a1 a2
      refine Calls.mono (of_ok M HO.out A A2 n c m c2 W0.heap.size w7 (HK.out w7 HK7.out).2.2.2.1 (HK.out w7 HK7.out).2.2.2.2.2.2) ?_
      rintro e w8 ⟨⟨A3, k3, A4, k4, rfl, hm8⟩, hb8⟩
      have h9 := At3.new w8 M.sg A3 M.least.n k3 A4 M.least.n k4
      have hb9 : Below w7.heap.size w7 (w8.alloc (.cells #[S M.sg, .slice A3 M.least.n k3, .slice A4 M.least.n k4] 25)) := hb8.alloc hb8.size _
      have hm9 := (hm8.below ((Below.refl w8.heap.size w8).alloc (Nat.le_refl _) (.cells #[S M.sg, .slice A3 M.least.n k3, .slice A4 M.least.n k4] 25))).more (B' := (w8.alloc (.cells #[S M.sg, .slice A3 M.least.n k3, .slice A4 M.least.n k4] 25)).heap.size) (by simp)
      generalize hw9 : w8.alloc (.cells #[S M.sg, .slice A3 M.least.n k3, .slice A4 M.least.n k4] 25) = w9 at *
      have HX9 := Lib.hid (And.intro h9 h9.lt)
      have HM9 := Lib.hid hm9
      have HB79 := Lib.hid hb9
      have HK9 := Lib.hid (HK7.out.trans (hb9.mono HK7.out.size))
      have HE9 := Lib.hid (error_any 0 0 w9 (HK.out w9 HK9.out).2.2.2.2.2.1)
      rw [show errV 0 = .nilIface from rfl, beq_self_eq_true] at HE9
      clear hb8 hm8 h9 hb9 hm9
      go_wp2_with fail
      clear hw9
      refine HE9.out.mono ?_
      rintro e w10 ⟨rfl, hb10⟩
      have HK10 := Lib.hid (HK9.out.trans (hb10.mono HK9.out.size))
      have hx10 := HX9.out.1.below hb10 HX9.out.2
      have hb710 : Below w7.heap.size w7 w10 := HB79.out.trans (hb10.mono HB79.out.size)
      have hw10 := HW7.out.1.below hb710 HW7.out.2
      obtain ⟨b0, b1, b2⟩ := hx10.cells
      obtain ⟨d0, d1, d2⟩ := hw10.cells
      have hm10 := (HM9.out.below hb10).more hb10.size
      have hmw10 := HMW7.out w10 hb710
      have hsm := smM_any M.least M.least A3 A4 Aw Aw2 M.least.n k3 M.least.n k4 M.least.n kw M.least.n kw2 w10.heap.size w10 hm10 hmw10 (Nat.le_refl _) (by have := Mc.least_le HO.out; have := HO.out.small; omega) (by have := Mc.least_le HO.out; have := HO.out.small; omega) (fun i hi => by have h1 := (Mc.least_ok HO.out).row i hi; have h2 := (Mc.least_ok HO.out).few; omega)
      rw [show decide (M.least = M.least) = true from decide_eq_true rfl] at hsm
      have HSM := Lib.hid hsm
      clear hb10 hx10 hw10 hsm hm10 hmw10 HE9 hb710
      go_wp2_with fail
      clear b0 b1 b2 d0 d1 d2
      refine HSM.out.mono ?_
      rintro e w11 ⟨rfl, hb11⟩
      have HK11 := Lib.hid (HK10.out.trans (hb11.mono HK10.out.size))
      obtain ⟨a0, a1, a2⟩ := (HK.out w11 HK11.out).1.cells
      have HAN : Hid (Calls Tryd.prog 11 #[mcv M.sg A n c A2 m c2] w11 fun e w' => e = .returned (.tuple #[S t, .nilIface]) ∧ Below w11.heap.size w11 w') := Lib.hid ((any_ok M HO.out A A2 n c m c2 W0.heap.size w11 (HK.out w11 HK11.out).2.2.2.1 (HK.out w11 HK11.out).2.2.2.2.2.2).mono fun e w' ⟨⟨r', hr', he'⟩, hb'⟩ => by
        have e1 := HRUN.out.det hr'
        subst e1
        exact ⟨he', hb'⟩)
      clear hb11 HSM HM9 HX9 HB79 HMW7 HW7
      go_wp2_with fail
      clear a0 a1 a2
      refine HAN.out.mono ?_
      rintro e w12 ⟨rfl, hb12⟩
      have HK12 := Lib.hid (HK11.out.trans (hb12.mono HK11.out.size))
      have HE14 := Lib.hid (error_any 0 0 w12 (HK.out w12 HK12.out).2.2.2.2.2.1)
      rw [show errV 0 = .nilIface from rfl] at HE14
      rw [beq_self_eq_true] at HE14
      clear hb12 HAN
      go_wp2_with fail
      refine HE14.out.mono ?_
      rintro e w13 ⟨rfl, hb13⟩
      have HK13 := Lib.hid (HK12.out.trans (hb13.mono HK12.out.size))
      obtain ⟨b0, b1, b2⟩ := (HK.out w13 HK13.out).2.1.cells
      have HWR2 := Lib.hid (wrong_any M2 A' A2' n' c' m' c2' W0.heap.size w13 (HK.out w13 HK13.out).2.2.2.2.1 (HK.out w13 HK13.out).2.2.2.2.2.2)
      clear hb13 HE14
      go_wp2_with fail
      clear b0 b1 b2
      refine HWR2.out.mono ?_
      rintro e w14 ⟨rfl, hb14⟩
      have HK14 := Lib.hid (HK13.out.trans (hb14.mono HK13.out.size))
      clear hb14 HWR2
      obtain ⟨a0, a1, a2⟩ := (HK.out w14 HK14.out).1.cells
      obtain ⟨b0, b1, b2⟩ := (HK.out w14 HK14.out).2.1.cells
      by_cases hw2 : M2.wrong = 0
      · have HO2 := Lib.hid (Mc.wrong_zero.1 hw2)
        have HWW := Lib.hid hw2
        rw [hw2]
        clear hw2
        by_cases hs : M.sg = M2.sg
        · have HSG := Lib.hid hs
          have hse := same_mc HO.out HO2.out hs
          have HSE := Lib.hid hse
          rw [← hs] at b0
          have HS : Hid (∀ W, Below w2.heap.size w2 W → ((W.cell? ⟨W0.heap.size, 0, none⟩ = some (S M.sg) ∧ W.cell? ⟨W0.heap.size, 1, none⟩ = some (.slice A n c) ∧ W.cell? ⟨W0.heap.size, 2, none⟩ = some (.slice A2 m c2)) ∧ (W.cell? ⟨W0.heap.size + 1, 0, none⟩ = some (S M2.sg) ∧ W.cell? ⟨W0.heap.size + 1, 1, none⟩ = some (.slice A' n' c') ∧ W.cell? ⟨W0.heap.size + 1, 2, none⟩ = some (.slice A2' m' c2'))) ∧ Below w2.heap.size w2 W) := Lib.hid fun W hb => ⟨⟨(HK.out W hb).1.cells, (HK.out W hb).2.1.cells⟩, hb⟩
          have HSMA : Hid (∀ W, Below w2.heap.size w2 W → Calls Tryd.prog 6 #[mcv M.sg A n c A2 m c2] W fun e w' => (∃ A' k' A2' k2', e = .returned (mcv M.sg A' M.least.n k' A2' M.least.n k2') ∧ ∀ V : World, (∀ k, W.heap.size ≤ k → k < w'.heap.size → V.heap[k]? = w'.heap[k]?) → MacW V V.heap.size A' M.least.n A2' M.least.n M.least) ∧ Below W.heap.size W w') := Lib.hid fun W hb => smallest_any M HO.out A A2 n c m c2 W0.heap.size W (HK.out W hb).2.2.2.1 (HK.out W hb).2.2.2.2.2.2
          have HSMB : Hid (∀ W, Below w2.heap.size w2 W → Calls Tryd.prog 6 #[mcv M2.sg A' n' c' A2' m' c2'] W fun e w' => (∃ A' k' A2' k2', e = .returned (mcv M2.sg A' M2.least.n k' A2' M2.least.n k2') ∧ ∀ V : World, (∀ k, W.heap.size ≤ k → k < w'.heap.size → V.heap[k]? = w'.heap[k]?) → MacW V V.heap.size A' M2.least.n A2' M2.least.n M2.least) ∧ Below W.heap.size W w') := Lib.hid fun W hb => smallest_any M2 HO2.out A' A2' n' c' m' c2' W0.heap.size W (HK.out W hb).2.2.2.2.1 (HK.out W hb).2.2.2.2.2.2
          have HSS : Hid (∀ (P1 P2 P3 P4 : Option Addr) (p1 p2 p3 p4 : Nat) (W : World), MacW W W.heap.size P1 M.least.n P2 M.least.n M.least → MacW W W.heap.size P3 M2.least.n P4 M2.least.n M2.least → Calls Tryd.prog 12 #[mcv M.sg P1 M.least.n p1 P2 M.least.n p2, mcv M2.sg P3 M2.least.n p3 P4 M2.least.n p4] W fun e w' => e = .returned (.bool (decide (M.least = M2.least))) ∧ Below W.heap.size W w') := Lib.hid fun P1 P2 P3 P4 p1 p2 p3 p4 W g1 g2 => same3_any M.least M2.least HSG.out P1 P2 P3 P4 M.least.n p1 p2 M2.least.n p3 p4 W.heap.size W g1 g2 (Nat.le_refl _) (by have := Mc.least_le HO.out; have := HO.out.small; omega) (fun i hi => by have h1 := (Mc.least_ok HO.out).row i hi; have h2 := (Mc.least_ok HO.out).few; omega)
          clear hse hs
          go_upto_region 21 with fail
          clear a0 a1 a2 b0 b1 b2
          refine wp_region_held_drew (S := (fun W => ((W.cell? ⟨W0.heap.size, 0, none⟩ = some (S M.sg) ∧ W.cell? ⟨W0.heap.size, 1, none⟩ = some (.slice A n c) ∧ W.cell? ⟨W0.heap.size, 2, none⟩ = some (.slice A2 m c2)) ∧ (W.cell? ⟨W0.heap.size + 1, 0, none⟩ = some (S M2.sg) ∧ W.cell? ⟨W0.heap.size + 1, 1, none⟩ = some (.slice A' n' c') ∧ W.cell? ⟨W0.heap.size + 1, 2, none⟩ = some (.slice A2' m' c2'))) ∧ Below w2.heap.size w2 W)) (by first | assumption | kernel_rfl | rfl) (HS.out _ HK14.out.drew) (fun hH => ?_)
          refine wpAnyH_take (i := 0) (v := ?_) rfl (by kernel_rfl) (by kernel_rfl) (by kernel_rfl) (fun _ _ _ h => h) (Or.inl ⟨by rfl, ?_⟩) hH ?_
          rotate_left
          · intro W hSw; (try dsimp only at hSw); go_simp; try with_reducible rfl
          try simp only [Act.put, List.getElem_toArray, List.getElem_cons_zero, List.getElem_cons_succ, List.setIfInBounds_toArray, List.set_cons_zero, List.set_cons_succ]
          refine wpAnyH_take (i := 2) (v := ?_) rfl (by kernel_rfl) (by kernel_rfl) (by kernel_rfl) (fun _ _ _ h => h) (Or.inl ⟨by rfl, ?_⟩) hH ?_
          rotate_left
          · intro W hSw; (try dsimp only at hSw); go_simp; try with_reducible rfl
          try simp only [Act.put, List.getElem_toArray, List.getElem_cons_zero, List.getElem_cons_succ, List.setIfInBounds_toArray, List.set_cons_zero, List.set_cons_succ]
          refine wpAnyH_ready (rs := [1]) (by kernel_rfl) (by simp) (AllReadyH.cons rfl (fun K hK => ?_) AllReadyH.nil)
          go_simp
          (with_reducible refine Calls.mono (HSMA.out _ hH.2) ?_)
          rintro e w15 ⟨⟨P1, p1, P2, p2, rfl, hm15⟩, hb15⟩
          go_wp2_with fail
          refine hK.out _ _ (HS.out _ (hH.2.trans (hb15.mono hH.2.size))) (fun hGw15 => ?_)
          clear hK K
          try simp only [Act.put, List.getElem_toArray, List.getElem_cons_zero, List.getElem_cons_succ, List.setIfInBounds_toArray, List.set_cons_zero, List.set_cons_succ]
          refine wpAnyH_ready (rs := [3]) (by kernel_rfl) (by simp) (AllReadyH.cons rfl (fun K hK => ?_) AllReadyH.nil)
          go_simp
          (with_reducible refine Calls.mono (HSMB.out _ hGw15.2) ?_)
          rintro e w16 ⟨⟨P3, p3, P4, p4, rfl, hm16⟩, hb16⟩
          go_wp2_with fail
          refine hK.out _ _ (HS.out _ (hGw15.2.trans (hb16.mono hGw15.2.size))) (fun hGw16 => ?_)
          clear hK K
          try simp only [Act.put, List.getElem_toArray, List.getElem_cons_zero, List.getElem_cons_succ, List.setIfInBounds_toArray, List.set_cons_zero, List.set_cons_succ]
          refine wpAnyH_ready (rs := [4]) (by kernel_rfl) (by simp) (AllReadyH.cons rfl (fun K hK => ?_) AllReadyH.nil)
          go_simp
          (with_reducible refine Calls.mono (HSS.out _ _ _ _ _ _ _ _ _ (hm15 w16 (fun k hk hl => hb16.block k hl)) (hm16 w16 (fun k _ _ => rfl))) ?_)
          rintro e w17 ⟨rfl, hb17⟩
          go_wp2_with fail
          refine hK.out _ _ (HS.out _ (hGw16.2.trans (hb17.mono hGw16.2.size))) (fun hH17 => ?_)
          clear hK K
          try simp only [Act.put, List.getElem_toArray, List.getElem_cons_zero, List.getElem_cons_succ, List.setIfInBounds_toArray, List.set_cons_zero, List.set_cons_succ]
          refine wpAnyH_take (i := 5) (v := ?_) rfl (by kernel_rfl) (by kernel_rfl) (by kernel_rfl) (fun _ _ _ h => h) (Or.inl ⟨by rfl, ?_⟩) hH17 ?_
          rotate_left
          · intro W hSw; (try dsimp only at hSw); go_simp; try with_reducible rfl
          try simp only [Act.put, List.getElem_toArray, List.getElem_cons_zero, List.getElem_cons_succ, List.setIfInBounds_toArray, List.set_cons_zero, List.set_cons_succ]
          refine wpAnyH_done (by kernel_rfl) ?_ _
          have HK17 := Lib.hid hH17.2
          obtain ⟨a0, a1, a2⟩ := (HK.out w17 HK17.out).1.cells
          obtain ⟨b0, b1, b2⟩ := (HK.out w17 HK17.out).2.1.cells
          have HSA := Lib.hid (same_any M M2 A A2 A' A2' n c m c2 n' c' m' c2' W0.heap.size w17 (HK.out w17 HK17.out).2.2.2.1 (HK.out w17 HK17.out).2.2.2.2.1 (HK.out w17 HK17.out).2.2.2.2.2.2)
          rw [HSE.out.1, HSE.out.2, show errV 0 = .nilIface from rfl] at HSA
          clear hH hGw15 hGw16 hH17 hb15 hb16 hb17 hm15 hm16 HS HSMA HSMB HSS HSE
          generalize decide (M.least = M2.least) = db at *
          go_wp2_with fail
          clear a0 a1 a2 b0 b1 b2
          refine HSA.out.mono ?_
          rintro e w18 ⟨rfl, hb18⟩
          have HK18 := Lib.hid (HK17.out.trans (hb18.mono HK17.out.size))
          have HER := Lib.hid (error_any 0 0 w18 (HK.out w18 HK18.out).2.2.2.2.2.1)
          rw [show errV 0 = .nilIface from rfl, beq_self_eq_true] at HER
          clear hb18 HSA
          go_wp2_with fail
          refine HER.out.mono ?_
          rintro e w19 ⟨rfl, hb19⟩
          have HK19 := Lib.hid (HK18.out.trans (hb19.mono HK18.out.size))
          clear hb19 HER
          go_wp2_with fail
          go_ret
          exact ⟨by simp, (HK.out w19 HK19.out).2.2.1⟩
        · have HSE : Hid (sameE M M2 = 3 ∧ sameB M M2 = false) := Lib.hid ⟨by unfold sameE; rw [if_neg (fun h => h HW.out), if_neg (fun h => h HWW.out), if_pos hs], by unfold sameB; exact decide_eq_false fun h => hs h.2.2.1⟩
          have hd : (M.sg == M2.sg) = false := by simp [hs]
          have HSA := Lib.hid (same_any M M2 A A2 A' A2' n c m c2 n' c' m' c2' W0.heap.size w14 (HK.out w14 HK14.out).2.2.2.1 (HK.out w14 HK14.out).2.2.2.2.1 (HK.out w14 HK14.out).2.2.2.2.2.2)
          rw [HSE.out.1, HSE.out.2, err_ne (by decide : (3 : Int) ≠ 0)] at HSA
          clear hs
          go_wp2_with fail
          clear a0 a1 a2 b0 b1 b2 hd
          refine HSA.out.mono ?_
          rintro e w15 ⟨rfl, hb15⟩
          have HK15 := Lib.hid (HK14.out.trans (hb15.mono HK14.out.size))
          have HER := Lib.hid (error_any 3 3 w15 (HK.out w15 HK15.out).2.2.2.2.2.1)
          rw [err_ne (by decide : (3 : Int) ≠ 0), beq_self_eq_true] at HER
          clear hb15 HSA
          go_wp2_with fail
          refine HER.out.mono ?_
          rintro e w16 ⟨rfl, hb16⟩
          have HK16 := Lib.hid (HK15.out.trans (hb16.mono HK15.out.size))
          clear hb16 HER
          go_wp2_with fail
          go_ret
          exact ⟨rfl, (HK.out w16 HK16.out).2.2.1⟩
      · have q2 : (M2.wrong == 0) = false := by simp [hw2]
        have HSE : Hid (sameE M M2 = M2.wrong ∧ sameB M M2 = false) := Lib.hid ⟨by unfold sameE; rw [if_neg (fun h => h HW.out), if_pos hw2], by unfold sameB; exact decide_eq_false fun h => hw2 h.2.1⟩
        have HWW := Lib.hid hw2
        have HSA := Lib.hid (same_any M M2 A A2 A' A2' n c m c2 n' c' m' c2' W0.heap.size w14 (HK.out w14 HK14.out).2.2.2.1 (HK.out w14 HK14.out).2.2.2.2.1 (HK.out w14 HK14.out).2.2.2.2.2.2)
        rw [HSE.out.1, HSE.out.2, err_ne hw2] at HSA
        clear hw2
        go_wp2_with fail
        clear a0 a1 a2 b0 b1 b2
        refine HSA.out.mono ?_
        rintro e w15 ⟨rfl, hb15⟩
        have HK15 := Lib.hid (HK14.out.trans (hb15.mono HK14.out.size))
        have HER := Lib.hid (error_any M2.wrong M2.wrong w15 (HK.out w15 HK15.out).2.2.2.2.2.1)
        rw [err_ne HWW.out, beq_self_eq_true] at HER
        clear hb15 HSA
        go_wp2_with fail
        refine HER.out.mono ?_
        rintro e w16 ⟨rfl, hb16⟩
        have HK16 := Lib.hid (HK15.out.trans (hb16.mono HK15.out.size))
        clear hb16 HER
        go_wp2_with fail
        go_ret
        exact ⟨rfl, (HK.out w16 HK16.out).2.2.1⟩
  · have q0 : (M.wrong == 0) = false := by simp [hw]
    have HW := Lib.hid hw
    have HSE : Hid (sameE M M2 = M.wrong ∧ sameB M M2 = false) := Lib.hid ⟨by unfold sameE; rw [if_pos hw], by unfold sameB; exact decide_eq_false fun h => hw h.1⟩
    have HOF := Lib.hid (of_err M A A2 n c m c2 W0.heap.size w4 (HK.out w4 HB4.out).2.2.2.1 (HK.out w4 HB4.out).2.2.2.2.2.2 hw)
    rw [err_ne hw] at HOF
    clear hw
    go_wp2_with fail
    clear hw4 a0 a1 a2
    refine HOF.out.mono ?_
    rintro e w5 ⟨rfl, hb5⟩
    go_upto_region 12 with fail
    have h6 := At3.new w5 [] none 0 0 none 0 0
    have hb6 : Below w4.heap.size w4 (w5.alloc (.cells #[S [], .slice none 0 0, .slice none 0 0] 25)) := hb5.alloc hb5.size _
    generalize hw6 : w5.alloc (.cells #[S [], .slice none 0 0, .slice none 0 0] 25) = w6 at *
    have HX6 := Lib.hid (And.intro h6 h6.lt)
    have hk6 : Below w2.heap.size w2 w6 := HB4.out.trans (hb6.mono HB4.out.size)
    have HK6 := Lib.hid hk6
    have HW6 := Lib.hid (HW4.out.below hb6 HW4.out.lt)
    have HER := Lib.hid (error_any M.wrong M.wrong w6 (HK.out w6 hk6).2.2.2.2.2.1)
    rw [err_ne HW.out, beq_self_eq_true] at HER
    clear hb5 hb6 h6 hk6 HOF
    go_wp2_with fail
    clear hw6
    refine HER.out.mono ?_
    rintro e w7 ⟨rfl, hb7⟩
    have HK7 := Lib.hid (HK6.out.trans (hb7.mono HK6.out.size))
    have hx7 := HX6.out.1.below hb7 HX6.out.2
    have hw7 := HW6.out.below hb7 HW6.out.lt
    obtain ⟨b0, b1, b2⟩ := hx7.cells
    obtain ⟨d0, d1, d2⟩ := hw7.cells
    have hsm := smM_any E0 E0 none none none none 0 0 0 0 0 0 0 0 w7.heap.size w7 (mac0 _ _) (mac0 _ _) (Nat.le_refl _) (by omega) (by omega) (fun i h => absurd h (by omega))
    rw [show decide (E0 = E0) = true from decide_eq_true rfl] at hsm
    have HSM := Lib.hid hsm
    clear hb7 hx7 hw7 hsm HER
    go_wp2_with fail
    clear b0 b1 b2 d0 d1 d2
    refine HSM.out.mono ?_
    rintro e w8 ⟨rfl, hb8⟩
    have HK8 := Lib.hid (HK7.out.trans (hb8.mono HK7.out.size))
    obtain ⟨a0, a1, a2⟩ := (HK.out w8 HK8.out).1.cells
    have HAN := Lib.hid (any_err M A A2 n c m c2 W0.heap.size w8 (HK.out w8 HK8.out).2.2.2.1 (HK.out w8 HK8.out).2.2.2.2.2.2 HW.out)
    rw [err_ne HW.out] at HAN
    clear hb8 HSM
    go_wp2_with fail
    clear a0 a1 a2
    refine HAN.out.mono ?_
    rintro e w9 ⟨rfl, hb9⟩
    have HK9 := Lib.hid (HK8.out.trans (hb9.mono HK8.out.size))
    have HER := Lib.hid (error_any M.wrong M.wrong w9 (HK.out w9 HK9.out).2.2.2.2.2.1)
    rw [err_ne HW.out, beq_self_eq_true] at HER
    clear hb9 HAN
    go_wp2_with fail
    refine HER.out.mono ?_
    rintro e w10 ⟨rfl, hb10⟩
    have HK10 := Lib.hid (HK9.out.trans (hb10.mono HK9.out.size))
    obtain ⟨a0, a1, a2⟩ := (HK.out w10 HK10.out).1.cells
    obtain ⟨b0, b1, b2⟩ := (HK.out w10 HK10.out).2.1.cells
    have HSA := Lib.hid (same_any M M2 A A2 A' A2' n c m c2 n' c' m' c2' W0.heap.size w10 (HK.out w10 HK10.out).2.2.2.1 (HK.out w10 HK10.out).2.2.2.2.1 (HK.out w10 HK10.out).2.2.2.2.2.2)
    rw [HSE.out.1, HSE.out.2, err_ne HW.out] at HSA
    clear hb10 HER
    go_wp2_with fail
    clear a0 a1 a2 b0 b1 b2
    refine HSA.out.mono ?_
    rintro e w11 ⟨rfl, hb11⟩
    have HK11 := Lib.hid (HK10.out.trans (hb11.mono HK10.out.size))
    have HER := Lib.hid (error_any M.wrong M.wrong w11 (HK.out w11 HK11.out).2.2.2.2.2.1)
    rw [err_ne HW.out, beq_self_eq_true] at HER
    clear hb11 HSA
    go_wp2_with fail
    refine HER.out.mono ?_
    rintro e w12 ⟨rfl, hb12⟩
    have HK12 := Lib.hid (HK11.out.trans (hb12.mono HK11.out.size))
    clear hb12 HER
    go_wp2_with fail
    go_ret
    exact ⟨rfl, (HK.out w12 HK12.out).2.2.1⟩
end Go.Proofs.YtfglajddibjnjaaDoor
