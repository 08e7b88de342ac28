/- LeastNerode: no two states of the least machine take the same, and it takes what the machine takes. No condition. -/
import Derived.Test.YtfglajddibjnjaaLsY
import Derived.Test.YtfglajddibjnjaaLsZ
import Derived.Test.YtfglajddibjnjaaLsTk
import Derived.Test.YtfglajddibjnjaaLsFr
import Derived.Test.YtfglajddibjnjaaLsNe
namespace Go.Proofs.Ytfglajddibjnjaa
open Go.RowKit IntWalk
set_option linter.unusedSimpArgs false
attribute [local go_sem] byte_at str_app
attribute [local go_sem ↓] Go.wp_at_zero Go.wp_at_succ

theorem inl_any (n lo hi : Int) (w : World) :
    Calls Try.prog 11 #[.int .i64 n, .int .i64 lo, .int .i64 hi] w fun e w' => e = .returned (.bool (decide (lo ≤ n ∧ n ≤ hi))) ∧ w = w' := by
  by_cases h1 : lo ≤ n
  · by_cases h2 : n ≤ hi
    all_goals
      go_enter Try.func11, Try.ntmps11
      go_wp2
      go_ret
      exact ⟨by simp [h1, h2], rfl⟩
  · go_enter Try.func11, Try.ntmps11
    go_wp2
    go_ret
    exact ⟨ret_bool (by simp [show ¬ lo ≤ n from by omega]), rfl⟩

set_option maxRecDepth 100000 in
set_option maxHeartbeats 8000000 in
theorem leastNerode_walk (M : Mc) (A A2 : Option Addr) (n c m c2 : Nat) (l : List UInt8) (i k : Int) (W0 : World) (hM : MacW W0 W0.heap.size A n A2 m M) :
    Calls Try.prog 4 #[mcv M.sg A n c A2 m c2, S l, .int .i64 i, .int .i64 k] W0 fun e w' => e = .returned (.bool true) ∧ Below W0.heap.size W0 w' := by
  have h0 := At3.new W0 M.sg A n c A2 m c2
  have hb0 := (Below.refl W0.heap.size W0).alloc (Nat.le_refl _) (.cells #[S M.sg, .slice A n c, .slice A2 m c2] 25)
  generalize hw1 : W0.alloc (.cells #[S M.sg, .slice A n c, .slice A2 m c2] 25) = w1 at *
  have hz1 : w1.heap.size = W0.heap.size + 1 := by rw [← hw1]; simp
  have HB := Lib.hid hb0
  have HA := Lib.hid h0
  have HZ := Lib.hid hz1
  have HM := Lib.hid hM
  clear h0 hb0 hz1 hM
  go_enter Try.func4, Try.ntmps4
  go_wp2_with fail
  clear hw1
  refine Calls.mono (fact_any w1) ?_
  rintro e w3 ⟨rfl, hb3⟩
  have HB3 := Lib.hid (HB.out.trans (hb3.mono HB.out.size))
  have HA3 := Lib.hid (HA.out.below hb3 HA.out.lt)
  have HZ3 : Hid (W0.heap.size + 1 ≤ w3.heap.size) := Lib.hid (by have := hb3.size; have := HZ.out; omega)
  clear hb3 HA HB HZ
  obtain ⟨a0, a1, a2⟩ := HA3.out.cells
  have hm3 := HM.out.below HB3.out
  by_cases hw : M.wrong = 0
  · have hO := Mc.wrong_zero.1 hw
    have HO := Lib.hid hO
    have HW := Lib.hid hw
    have HLO := Lib.hid (Mc.least_ok hO)
    have HCK := Lib.hid (of_ok M hO A A2 n c m c2 W0.heap.size w3 hm3 HB3.out.size)
    clear hw hO hm3
    go_wp2_with fail
    clear a0 a1 a2
    refine HCK.out.mono ?_
    rintro e w4 ⟨⟨A3, k3, A4, k4, rfl, hm4⟩, hb4⟩
    have h4 := At3.new w4 M.sg A3 M.least.n k3 A4 M.least.n k4
    have hb5 := hb4.alloc hb4.size (.cells #[S M.sg, .slice A3 M.least.n k3, .slice A4 M.least.n k4] 25)
    have hm5 := hm4.below ((Below.refl w4.heap.size w4).alloc (Nat.le_refl _) (.cells #[S M.sg, .slice A3 M.least.n k3, .slice A4 M.least.n k4] 25))
    have hz4 := hb4.size
    clear hb4 hm4 HCK
    generalize hw5 : w4.alloc (.cells #[S M.sg, .slice A3 M.least.n k3, .slice A4 M.least.n k4] 25) = w5 at *
    have hz5 : w5.heap.size = w4.heap.size + 1 := by rw [← hw5]; simp
    have HX := Lib.hid (And.intro h4 h4.lt)
    have HB5 := Lib.hid (HB3.out.trans (hb5.mono HB3.out.size))
    have ha5 := HA3.out.below hb5 HA3.out.lt
    have HA5 := Lib.hid (And.intro ha5 ha5.lt)
    have HM5 := Lib.hid (hm5.more (B' := w5.heap.size) (by omega))
    obtain ⟨a0, a1, a2⟩ := ha5.cells
    clear h4 hb5 hm5 hz4 hz5 ha5 HA3
    have HTK := Lib.hid (takes_any M A A2 n c m c2 W0.heap.size l w5 (HM.out.below HB5.out) HB5.out.size)
    have hTE : takesE M.least l = takesE M l := by unfold takesE; rw [Mc.wrong_zero.2 HLO.out, HW.out]
    have hTV : takesV M.least l = takesV M l := by unfold takesV; rw [Mc.wrong_zero.2 HLO.out, HW.out, Mc.least_takesB HO.out]
    have HTE := Lib.hid hTE; have HTV := Lib.hid hTV
    clear hTE hTV
    go_wp2_with fail
    clear hw5 a0 a1 a2
    refine HTK.out.mono ?_
    rintro e w6 ⟨rfl, hb6⟩
    have hx6 := HX.out.1.below hb6 HX.out.2
    have HX6 := Lib.hid (And.intro hx6 hx6.lt)
    have ha6 := HA5.out.1.below hb6 HA5.out.2
    have HA6 := Lib.hid (And.intro ha6 ha6.lt)
    have HB6 := Lib.hid (HB5.out.trans (hb6.mono HB5.out.size))
    have HM6 := Lib.hid ((HM5.out.below hb6).more hb6.size)
    obtain ⟨b0, b1, b2⟩ := hx6.cells
    have HTL := Lib.hid (takes_any M.least A3 A4 M.least.n k3 M.least.n k4 w6.heap.size l w6 HM6.out (Nat.le_refl _))
    rw [HTE.out, HTV.out] at HTL
    have hte : takesE M l = 4 ∨ takesE M l = 0 := by unfold takesE; rw [HW.out]; by_cases h : 24 < l.length <;> simp [h]
    generalize takesE M l = te at *
    generalize takesV M l = tv at *
    clear hb6 hx6 ha6 HTK HTE HTV
    go_wp2_with fail
    clear b0 b1 b2
    refine HTL.out.mono ?_
    rintro e w7 ⟨rfl, hb7⟩
    have hx7 := HX6.out.1.below hb7 HX6.out.2
    have ha7 := HA6.out.1.below hb7 HA6.out.2
    have HB7 := Lib.hid (HB6.out.trans (hb7.mono HB6.out.size))
    have HM7 := Lib.hid ((HM6.out.below hb7).more hb7.size)
    generalize hgL : w4.heap.size = gL at *
    have HS : Hid (∀ W, Below w7.heap.size w7 W → (W.cell? ⟨W0.heap.size, 0, none⟩ = some (S M.sg) ∧ W.cell? ⟨W0.heap.size, 1, none⟩ = some (.slice A n c) ∧ W.cell? ⟨W0.heap.size, 2, none⟩ = some (.slice A2 m c2)) ∧ (W.cell? ⟨gL, 0, none⟩ = some (S M.sg) ∧ W.cell? ⟨gL, 1, none⟩ = some (.slice A3 M.least.n k3) ∧ W.cell? ⟨gL, 2, none⟩ = some (.slice A4 M.least.n k4)) ∧ Below w7.heap.size w7 W) := Lib.hid fun W hb => ⟨(ha7.below hb ha7.lt).cells, (hx7.below hb hx7.lt).cells, hb⟩
    have HWM : Hid (∀ W, Below w7.heap.size w7 W → Calls Try.prog 10 #[mcv M.sg A n c A2 m c2] W fun e w' => e = .returned (.int .i64 0) ∧ Below W.heap.size W w') := Lib.hid fun W hb => by
      have hbb := HB7.out.trans (hb.mono HB7.out.size)
      have h := wrong_any M A A2 n c m c2 W0.heap.size W (HM.out.below hbb) hbb.size
      rw [HW.out] at h; exact h
    have HWL : Hid (∀ W, Below w7.heap.size w7 W → Calls Try.prog 10 #[mcv M.sg A3 M.least.n k3 A4 M.least.n k4] W fun e w' => e = .returned (.int .i64 0) ∧ Below W.heap.size W w') := Lib.hid fun W hb => by
      have h := wrong_any M.least A3 A4 M.least.n k3 M.least.n k4 w7.heap.size W (HM7.out.below hb) hb.size
      rw [Mc.wrong_zero.2 HLO.out] at h; exact h
    have hln : M.least.n ≤ n := by have h1 := Mc.least_le HO.out; have h2 := HM.out.n_eq; omega
    have HLN := Lib.hid hln
    have HL1000 : Hid (M.least.n ≤ 1000 ∧ 0 < M.least.n) := Lib.hid ⟨by have h1 := HLO.out.small; exact h1, HLO.out.pos⟩
    have q1 : ¬ (n : Int) < (M.least.n : Int) := by omega
    have q2 : ¬ n < M.least.n := by omega
    obtain ⟨c0, c1, c2'⟩ := ha7.cells
    obtain ⟨d0, d1, d2⟩ := hx7.cells
    clear hb7 hx7 ha7 HTL HA6 HX6 hgL HA5 HX HM5 HM6
    generalize w7 = wb at *
    clear hln
    rcases hte with rfl | rfl
    · rw [err_ne (by decide : (4 : Int) ≠ 0)]
      go_wp2_with fail
      refine wp_region_held_drew (S := (fun W => (W.cell? ⟨W0.heap.size, 0, none⟩ = some (S M.sg) ∧ W.cell? ⟨W0.heap.size, 1, none⟩ = some (.slice A n c) ∧ W.cell? ⟨W0.heap.size, 2, none⟩ = some (.slice A2 m c2)) ∧ (W.cell? ⟨gL, 0, none⟩ = some (S M.sg) ∧ W.cell? ⟨gL, 1, none⟩ = some (.slice A3 M.least.n k3) ∧ W.cell? ⟨gL, 2, none⟩ = some (.slice A4 M.least.n k4)) ∧ Below wb.heap.size wb W)) (by first | assumption | kernel_rfl | rfl) (HS.out _ (Below.refl wb.heap.size wb).drew) (fun hH => ?_)
      refine wpAnyH_take (i := 0) (v := ?_) rfl (by kernel_rfl) (by kernel_rfl) (by kernel_rfl) (fun _ _ _ h => h) (Or.inl ⟨by rfl, ?_⟩) hH ?_
      rotate_left
      · intro W hSw; (try dsimp only at hSw); go_simp; try with_reducible rfl
      try simp only [Act.put, List.getElem_toArray, List.getElem_cons_zero, List.getElem_cons_succ, List.setIfInBounds_toArray, List.set_cons_zero, List.set_cons_succ]
      refine wpAnyH_take (i := 1) (v := ?_) rfl (by kernel_rfl) (by kernel_rfl) (by kernel_rfl) (fun _ _ _ h => h) (Or.inl ⟨by rfl, ?_⟩) hH ?_
      rotate_left
      · intro W hSw; (try dsimp only at hSw); go_simp; try with_reducible rfl
      try simp only [Act.put, List.getElem_toArray, List.getElem_cons_zero, List.getElem_cons_succ, List.setIfInBounds_toArray, List.set_cons_zero, List.set_cons_succ]
      refine wpAnyH_take (i := 2) (v := ?_) rfl (by kernel_rfl) (by kernel_rfl) (by kernel_rfl) (fun _ _ _ h => h) (Or.inl ⟨by rfl, ?_⟩) hH ?_
      rotate_left
      · intro W hSw; (try dsimp only at hSw); go_simp; try with_reducible rfl
      try simp only [Act.put, List.getElem_toArray, List.getElem_cons_zero, List.getElem_cons_succ, List.setIfInBounds_toArray, List.set_cons_zero, List.set_cons_succ]
      refine wpAnyH_take (i := 3) (v := ?_) rfl (by kernel_rfl) (by kernel_rfl) (by kernel_rfl) (fun _ _ _ h => h) (Or.inl ⟨by rfl, ?_⟩) hH ?_
      rotate_left
      · intro W hSw; (try dsimp only at hSw); go_simp; try with_reducible rfl
      try simp only [Act.put, List.getElem_toArray, List.getElem_cons_zero, List.getElem_cons_succ, List.setIfInBounds_toArray, List.set_cons_zero, List.set_cons_succ]
      refine wpAnyH_take (i := 4) (v := ?_) rfl (by kernel_rfl) (by kernel_rfl) (by kernel_rfl) (fun _ _ _ h => h) (Or.inl ⟨by rfl, ?_⟩) hH ?_
      rotate_left
      · intro W hSw; (try dsimp only at hSw); go_simp; try with_reducible rfl
      try simp only [Act.put, List.getElem_toArray, List.getElem_cons_zero, List.getElem_cons_succ, List.setIfInBounds_toArray, List.set_cons_zero, List.set_cons_succ]
      refine wpAnyH_take (i := 5) (v := ?_) rfl (by kernel_rfl) (by kernel_rfl) (by kernel_rfl) (fun _ _ _ h => h) (Or.inl ⟨by rfl, ?_⟩) hH ?_
      rotate_left
      · intro W hSw; (try dsimp only at hSw); go_simp; try with_reducible rfl
      try simp only [Act.put, List.getElem_toArray, List.getElem_cons_zero, List.getElem_cons_succ, List.setIfInBounds_toArray, List.set_cons_zero, List.set_cons_succ]
      refine wpAnyH_take (i := 6) (v := ?_) rfl (by kernel_rfl) (by kernel_rfl) (by kernel_rfl) (fun _ _ _ h => h) (Or.inl ⟨by rfl, ?_⟩) hH ?_
      rotate_left
      · intro W hSw; (try dsimp only at hSw); go_simp; try with_reducible rfl
      try simp only [Act.put, List.getElem_toArray, List.getElem_cons_zero, List.getElem_cons_succ, List.setIfInBounds_toArray, List.set_cons_zero, List.set_cons_succ]
      refine wpAnyH_take (i := 7) (v := ?_) rfl (by kernel_rfl) (by kernel_rfl) (by kernel_rfl) (fun _ _ _ h => h) (Or.inl ⟨by rfl, ?_⟩) hH ?_
      rotate_left
      · intro W hSw; (try dsimp only at hSw); go_simp; try with_reducible rfl
      try simp only [Act.put, List.getElem_toArray, List.getElem_cons_zero, List.getElem_cons_succ, List.setIfInBounds_toArray, List.set_cons_zero, List.set_cons_succ]
      refine wpAnyH_take (i := 8) (v := ?_) rfl (by kernel_rfl) (by kernel_rfl) (by kernel_rfl) (fun _ _ _ h => h) (Or.inl ⟨by rfl, ?_⟩) hH ?_
      rotate_left
      · intro W hSw; (try dsimp only at hSw); go_simp; try with_reducible rfl
      try simp only [Act.put, List.getElem_toArray, List.getElem_cons_zero, List.getElem_cons_succ, List.setIfInBounds_toArray, List.set_cons_zero, List.set_cons_succ]
      refine wpAnyH_take (i := 9) (v := ?_) rfl (by kernel_rfl) (by kernel_rfl) (by kernel_rfl) (fun _ _ _ h => h) (Or.inl ⟨by rfl, ?_⟩) hH ?_
      rotate_left
      · intro W hSw; (try dsimp only at hSw); go_simp; try with_reducible rfl
      try simp only [Act.put, List.getElem_toArray, List.getElem_cons_zero, List.getElem_cons_succ, List.setIfInBounds_toArray, List.set_cons_zero, List.set_cons_succ]
      refine wpAnyH_take (i := 10) (v := ?_) rfl (by kernel_rfl) (by kernel_rfl) (by kernel_rfl) (fun _ _ _ h => h) (Or.inl ⟨by rfl, ?_⟩) hH ?_
      rotate_left
      · intro W hSw; (try dsimp only at hSw); go_simp; try with_reducible rfl
      try simp only [Act.put, List.getElem_toArray, List.getElem_cons_zero, List.getElem_cons_succ, List.setIfInBounds_toArray, List.set_cons_zero, List.set_cons_succ]
      refine wpAnyH_take (i := 11) (v := ?_) rfl (by kernel_rfl) (by kernel_rfl) (by kernel_rfl) (fun _ _ _ h => h) (Or.inl ⟨by rfl, ?_⟩) hH ?_
      rotate_left
      · intro W hSw; (try dsimp only at hSw); go_simp; try with_reducible rfl
      try simp only [Act.put, List.getElem_toArray, List.getElem_cons_zero, List.getElem_cons_succ, List.setIfInBounds_toArray, List.set_cons_zero, List.set_cons_succ]
      refine wpAnyH_ready (rs := [12]) (by kernel_rfl) (by simp) (AllReadyH.cons rfl (fun K hK => ?_) AllReadyH.nil)
      go_simp
      (with_reducible refine Calls.mono (HWM.out _ hH.2.2) ?_)
      rintro e w5 ⟨rfl, hb5⟩
      go_wp2_with fail
      refine hK.out _ _ (HS.out _ (hH.2.2.trans (hb5.mono hH.2.2.size))) (fun hH5 => ?_)
      clear hK K
      try simp only [Act.put, List.getElem_toArray, List.getElem_cons_zero, List.getElem_cons_succ, List.setIfInBounds_toArray, List.set_cons_zero, List.set_cons_succ]
      refine wpAnyH_take (i := 13) (v := ?_) rfl (by kernel_rfl) (by kernel_rfl) (by kernel_rfl) (fun _ _ _ h => h) (Or.inl ⟨by rfl, ?_⟩) hH5 ?_
      rotate_left
      · intro W hSw; (try dsimp only at hSw); go_simp; try with_reducible rfl
      try simp only [Act.put, List.getElem_toArray, List.getElem_cons_zero, List.getElem_cons_succ, List.setIfInBounds_toArray, List.set_cons_zero, List.set_cons_succ]
      refine wpAnyH_take (i := 14) (v := ?_) rfl (by kernel_rfl) (by kernel_rfl) (by kernel_rfl) (fun _ _ _ h => h) (Or.inl ⟨by rfl, ?_⟩) hH5 ?_
      rotate_left
      · intro W hSw; (try dsimp only at hSw); go_simp; try with_reducible rfl
      try simp only [Act.put, List.getElem_toArray, List.getElem_cons_zero, List.getElem_cons_succ, List.setIfInBounds_toArray, List.set_cons_zero, List.set_cons_succ]
      refine wpAnyH_take (i := 15) (v := ?_) rfl (by kernel_rfl) (by kernel_rfl) (by kernel_rfl) (fun _ _ _ h => h) (Or.inl ⟨by rfl, ?_⟩) hH5 ?_
      rotate_left
      · intro W hSw; (try dsimp only at hSw); go_simp; try with_reducible rfl
      try simp only [Act.put, List.getElem_toArray, List.getElem_cons_zero, List.getElem_cons_succ, List.setIfInBounds_toArray, List.set_cons_zero, List.set_cons_succ]
      refine wpAnyH_take (i := 16) (v := ?_) rfl (by kernel_rfl) (by kernel_rfl) (by kernel_rfl) (fun _ _ _ h => h) (Or.inl ⟨by rfl, ?_⟩) hH5 ?_
      rotate_left
      · intro W hSw; (try dsimp only at hSw); go_simp; try with_reducible rfl
      try simp only [Act.put, List.getElem_toArray, List.getElem_cons_zero, List.getElem_cons_succ, List.setIfInBounds_toArray, List.set_cons_zero, List.set_cons_succ]
      refine wpAnyH_ready (rs := [17]) (by kernel_rfl) (by simp) (AllReadyH.cons rfl (fun K hK => ?_) AllReadyH.nil)
      go_simp
      (with_reducible refine Calls.mono (HWL.out _ hH5.2.2) ?_)
      rintro e w6 ⟨rfl, hb6⟩
      go_wp2_with fail
      refine hK.out _ _ (HS.out _ (hH5.2.2.trans (hb6.mono hH5.2.2.size))) (fun hH6 => ?_)
      clear hK K
      try simp only [Act.put, List.getElem_toArray, List.getElem_cons_zero, List.getElem_cons_succ, List.setIfInBounds_toArray, List.set_cons_zero, List.set_cons_succ]
      refine wpAnyH_take (i := 18) (v := ?_) rfl (by kernel_rfl) (by kernel_rfl) (by kernel_rfl) (fun _ _ _ h => h) (Or.inl ⟨by rfl, ?_⟩) hH6 ?_
      rotate_left
      · intro W hSw; (try dsimp only at hSw); go_simp; try with_reducible rfl
      try simp only [Act.put, List.getElem_toArray, List.getElem_cons_zero, List.getElem_cons_succ, List.setIfInBounds_toArray, List.set_cons_zero, List.set_cons_succ]
      refine wpAnyH_take (i := 19) (v := ?_) rfl (by kernel_rfl) (by kernel_rfl) (by kernel_rfl) (fun _ _ _ h => h) (Or.inl ⟨by rfl, ?_⟩) hH6 ?_
      rotate_left
      · intro W hSw; (try dsimp only at hSw); go_simp; try with_reducible rfl
      try simp only [Act.put, List.getElem_toArray, List.getElem_cons_zero, List.getElem_cons_succ, List.setIfInBounds_toArray, List.set_cons_zero, List.set_cons_succ]
      refine wpAnyH_take (i := 20) (v := ?_) rfl (by kernel_rfl) (by kernel_rfl) (by kernel_rfl) (fun _ _ _ h => h) (Or.inl ⟨by rfl, ?_⟩) hH6 ?_
      rotate_left
      · intro W hSw; (try dsimp only at hSw); go_simp; try with_reducible rfl
      try simp only [Act.put, List.getElem_toArray, List.getElem_cons_zero, List.getElem_cons_succ, List.setIfInBounds_toArray, List.set_cons_zero, List.set_cons_succ]
      refine wpAnyH_take (i := 21) (v := ?_) rfl (by kernel_rfl) (by kernel_rfl) (by kernel_rfl) (fun _ _ _ h => h) (Or.inl ⟨by rfl, ?_⟩) hH6 ?_
      rotate_left
      · intro W hSw; (try dsimp only at hSw); go_simp; try with_reducible rfl
      try simp only [Act.put, List.getElem_toArray, List.getElem_cons_zero, List.getElem_cons_succ, List.setIfInBounds_toArray, List.set_cons_zero, List.set_cons_succ]
      refine wpAnyH_take (i := 22) (v := ?_) rfl (by kernel_rfl) (by kernel_rfl) (by kernel_rfl) (fun _ _ _ h => h) (Or.inl ⟨by rfl, ?_⟩) hH6 ?_
      rotate_left
      · intro W hSw; (try dsimp only at hSw); go_simp; try with_reducible rfl
      try simp only [Act.put, List.getElem_toArray, List.getElem_cons_zero, List.getElem_cons_succ, List.setIfInBounds_toArray, List.set_cons_zero, List.set_cons_succ]
      refine wpAnyH_take (i := 23) (v := ?_) rfl (by kernel_rfl) (by kernel_rfl) (by kernel_rfl) (fun _ _ _ h => h) (Or.inl ⟨by rfl, ?_⟩) hH6 ?_
      rotate_left
      · intro W hSw; (try dsimp only at hSw); go_simp; try with_reducible rfl
      try simp only [Act.put, List.getElem_toArray, List.getElem_cons_zero, List.getElem_cons_succ, List.setIfInBounds_toArray, List.set_cons_zero, List.set_cons_succ]
      refine wpAnyH_take (i := 24) (v := ?_) rfl (by kernel_rfl) (by kernel_rfl) (by kernel_rfl) (fun _ _ _ h => h) (Or.inl ⟨by rfl, ?_⟩) hH6 ?_
      rotate_left
      · intro W hSw; (try dsimp only at hSw); go_simp; try with_reducible rfl
      try simp only [Act.put, List.getElem_toArray, List.getElem_cons_zero, List.getElem_cons_succ, List.setIfInBounds_toArray, List.set_cons_zero, List.set_cons_succ]
      refine wpAnyH_take (i := 25) (v := ?_) rfl (by kernel_rfl) (by kernel_rfl) (by kernel_rfl) (fun _ _ _ h => h) (Or.inl ⟨by rfl, ?_⟩) hH6 ?_
      rotate_left
      · intro W hSw; (try dsimp only at hSw); go_simp; try with_reducible rfl
      try simp only [Act.put, List.getElem_toArray, List.getElem_cons_zero, List.getElem_cons_succ, List.setIfInBounds_toArray, List.set_cons_zero, List.set_cons_succ]
      refine wpAnyH_take (i := 26) (v := ?_) rfl (by kernel_rfl) (by kernel_rfl) (by kernel_rfl) (fun _ _ _ h => h) (Or.inl ⟨by rfl, ?_⟩) hH6 ?_
      rotate_left
      · intro W hSw; (try dsimp only at hSw); go_simp; try with_reducible rfl
      try simp only [Act.put, List.getElem_toArray, List.getElem_cons_zero, List.getElem_cons_succ, List.setIfInBounds_toArray, List.set_cons_zero, List.set_cons_succ]
      refine wpAnyH_take (i := 27) (v := ?_) rfl (by kernel_rfl) (by kernel_rfl) (by kernel_rfl) (fun _ _ _ h => h) (Or.inl ⟨by rfl, ?_⟩) hH6 ?_
      rotate_left
      · intro W hSw; (try dsimp only at hSw); go_simp; try with_reducible rfl
      try simp only [Act.put, List.getElem_toArray, List.getElem_cons_zero, List.getElem_cons_succ, List.setIfInBounds_toArray, List.set_cons_zero, List.set_cons_succ]
      refine wpAnyH_take (i := 28) (v := ?_) rfl (by kernel_rfl) (by kernel_rfl) (by kernel_rfl) (fun _ _ _ h => h) (Or.inl ⟨by rfl, ?_⟩) hH6 ?_
      rotate_left
      · intro W hSw; (try dsimp only at hSw); go_simp; try with_reducible rfl
      try simp only [Act.put, List.getElem_toArray, List.getElem_cons_zero, List.getElem_cons_succ, List.setIfInBounds_toArray, List.set_cons_zero, List.set_cons_succ]
      refine wpAnyH_done (by kernel_rfl) ?_ _
      have HBW := Lib.hid hH6.2.2
      obtain ⟨b0, b1, b2⟩ := hH6.2.1
      have HS2 : Hid (∀ W, Below w6.heap.size w6 W → (W.cell? ⟨gL, 0, none⟩ = some (S M.sg) ∧ W.cell? ⟨gL, 1, none⟩ = some (.slice A3 M.least.n k3) ∧ W.cell? ⟨gL, 2, none⟩ = some (.slice A4 M.least.n k4)) ∧ Below w6.heap.size w6 W) := Lib.hid fun W hb => ⟨(HS.out W (HBW.out.trans (hb.mono HBW.out.size))).2.1, hb⟩
      have HBc := Lib.hid (HB7.out.trans (HBW.out.mono HB7.out.size))
      have HMc := Lib.hid ((HM7.out.below HBW.out).more HBW.out.size)
      clear hH hH5 hH6 hb5 hb6 HS HWM HWL c0 c1 c2' d0 d1 d2
      generalize w6 = wc at *
      have q3 : IntKind.i64.wrap ((M.least.n : Int) - 1) = (M.least.n : Int) - 1 := i64_in _ (by have := HL1000.out; omega)
      by_cases hi : 0 ≤ i ∧ i ≤ (M.least.n : Int) - 1
      · have HI1 := Lib.hid (fun W => inl_any i 0 ((M.least.n : Int) - 1) W)
        rw [decide_eq_true hi] at HI1
        obtain ⟨i0, rfl⟩ : ∃ i0 : Nat, i = (i0 : Int) := ⟨i.toNat, by omega⟩
        have HI0 : Hid (i0 < M.least.n) := Lib.hid (by omega)
        clear hi
        by_cases hk : 0 ≤ k ∧ k ≤ (M.least.n : Int) - 1
        · have HK1 := Lib.hid (fun W => inl_any k 0 ((M.least.n : Int) - 1) W)
          rw [decide_eq_true hk] at HK1
          obtain ⟨k0, rfl⟩ : ∃ k0 : Nat, k = (k0 : Int) := ⟨k.toNat, by omega⟩
          have HK0 : Hid (k0 < M.least.n) := Lib.hid (by omega)
          clear hk
          by_cases hik : i0 = k0
          · subst hik
            have q4 : ((i0 : Int) == (i0 : Int)) = true := by simp
            go_wp2_with fail
            refine (HI1.out _).mono ?_
            rintro e w' ⟨rfl, rfl⟩
            go_wp2_with fail
            refine (HK1.out _).mono ?_
            rintro e w' ⟨rfl, rfl⟩
            go_wp2_with fail
            go_ret
            exact ⟨rfl, HBc.out⟩
          · have HIK := Lib.hid hik
            have q4 : ((i0 : Int) == (k0 : Int)) = false := by simp; omega
            have q5 : (i0 == k0) = false := by simp; omega
            go_wp2_with fail
            refine (HI1.out _).mono ?_
            rintro e w' ⟨rfl, rfl⟩
            go_wp2_with fail
            refine (HK1.out _).mono ?_
            rintro e w' ⟨rfl, rfl⟩
            have HFI : Hid (∀ W, Below wc.heap.size wc W → Calls Try.prog 12 #[mcv M.sg A3 M.least.n k3 A4 M.least.n k4, .int .i64 (i0 : Int)] W fun e w' => (∃ A' k' A2' k2', e = .returned (mcv M.sg A' M.least.n k' A2' M.least.n k2') ∧ MacW w' w'.heap.size A' M.least.n A2' M.least.n (M.least.frm i0)) ∧ Below W.heap.size W w') := Lib.hid fun W hb => from_any M.least HLO.out i0 HI0.out A3 A4 M.least.n k3 M.least.n k4 wc.heap.size W (HMc.out.below hb) hb.size
            have HFK : Hid (∀ W, Below wc.heap.size wc W → Calls Try.prog 12 #[mcv M.sg A3 M.least.n k3 A4 M.least.n k4, .int .i64 (k0 : Int)] W fun e w' => (∃ A' k' A2' k2', e = .returned (mcv M.sg A' M.least.n k' A2' M.least.n k2') ∧ MacW w' w'.heap.size A' M.least.n A2' M.least.n (M.least.frm k0)) ∧ Below W.heap.size W w') := Lib.hid fun W hb => from_any M.least HLO.out k0 HK0.out A3 A4 M.least.n k3 M.least.n k4 wc.heap.size W (HMc.out.below hb) hb.size
            have HSM : Hid (∀ (P1 P2 P3 P4 : Option Addr) (p1 p2 p3 p4 : Nat) (W : World), MacW W W.heap.size P1 M.least.n P2 M.least.n (M.least.frm i0) → MacW W W.heap.size P3 M.least.n P4 M.least.n (M.least.frm k0) → Calls Try.prog 7 #[mcv M.sg P1 M.least.n p1 P2 M.least.n p2, mcv M.sg P3 M.least.n p3 P4 M.least.n p4] W fun e w' => e = .returned (.tuple #[.bool false, .nilIface]) ∧ Below W.heap.size W w') := Lib.hid fun P1 P2 P3 P4 p1 p2 p3 p4 W h1 h2 => by
              have h := same_any (M.least.frm i0) (M.least.frm k0) P1 P2 P3 P4 M.least.n p1 M.least.n p2 M.least.n p3 M.least.n p4 W.heap.size W h1 h2 (Nat.le_refl _)
              have hs := same_mc (Mc.frm_ok HLO.out HI0.out) (Mc.frm_ok HLO.out HK0.out) rfl
              rw [hs.1, hs.2, decide_eq_false (Mc.nerode HO.out HI0.out HK0.out HIK.out)] at h
              exact h
            clear hik
            go_upto_region 14 with fail
            clear b0 b1 b2
            refine wp_region_held_drew (S := (fun W => (W.cell? ⟨gL, 0, none⟩ = some (S M.sg) ∧ W.cell? ⟨gL, 1, none⟩ = some (.slice A3 M.least.n k3) ∧ W.cell? ⟨gL, 2, none⟩ = some (.slice A4 M.least.n k4)) ∧ Below wc.heap.size wc W)) (by first | assumption | kernel_rfl | rfl) (HS2.out _ (Below.refl wc.heap.size wc).drew) (fun hH => ?_)
            refine wpAnyH_take (i := 0) (v := ?_) rfl (by kernel_rfl) (by kernel_rfl) (by kernel_rfl) (fun _ _ _ h => h) (Or.inl ⟨by rfl, ?_⟩) hH ?_
            rotate_left
            · intro W hSw; (try dsimp only at hSw); go_simp; try with_reducible rfl
            try simp only [Act.put, List.getElem_toArray, List.getElem_cons_zero, List.getElem_cons_succ, List.setIfInBounds_toArray, List.set_cons_zero, List.set_cons_succ]
            refine wpAnyH_take (i := 1) (v := ?_) rfl (by kernel_rfl) (by kernel_rfl) (by kernel_rfl) (fun _ _ _ h => h) (Or.inl ⟨by rfl, ?_⟩) hH ?_
            rotate_left
            · intro W hSw; (try dsimp only at hSw); go_simp; try with_reducible rfl
            try simp only [Act.put, List.getElem_toArray, List.getElem_cons_zero, List.getElem_cons_succ, List.setIfInBounds_toArray, List.set_cons_zero, List.set_cons_succ]
            refine wpAnyH_take (i := 3) (v := ?_) rfl (by kernel_rfl) (by kernel_rfl) (by kernel_rfl) (fun _ _ _ h => h) (Or.inl ⟨by rfl, ?_⟩) hH ?_
            rotate_left
            · intro W hSw; (try dsimp only at hSw); go_simp; try with_reducible rfl
            try simp only [Act.put, List.getElem_toArray, List.getElem_cons_zero, List.getElem_cons_succ, List.setIfInBounds_toArray, List.set_cons_zero, List.set_cons_succ]
            refine wpAnyH_take (i := 4) (v := ?_) rfl (by kernel_rfl) (by kernel_rfl) (by kernel_rfl) (fun _ _ _ h => h) (Or.inl ⟨by rfl, ?_⟩) hH ?_
            rotate_left
            · intro W hSw; (try dsimp only at hSw); go_simp; try with_reducible rfl
            try simp only [Act.put, List.getElem_toArray, List.getElem_cons_zero, List.getElem_cons_succ, List.setIfInBounds_toArray, List.set_cons_zero, List.set_cons_succ]
            refine wpAnyH_ready (rs := [2]) (by kernel_rfl) (by simp) (AllReadyH.cons rfl (fun K hK => ?_) AllReadyH.nil)
            go_simp
            (with_reducible refine Calls.mono (HFI.out _ hH.2) ?_)
            rintro e w5 ⟨⟨P1, p1, P2, p2, rfl, hm5⟩, hb5⟩
            go_wp2_with fail
            refine hK.out _ _ (HS2.out _ (hH.2.trans (hb5.mono hH.2.size))) (fun hGw5 => ?_)
            clear hK K
            try simp only [Act.put, List.getElem_toArray, List.getElem_cons_zero, List.getElem_cons_succ, List.setIfInBounds_toArray, List.set_cons_zero, List.set_cons_succ]
            refine wpAnyH_ready (rs := [5]) (by kernel_rfl) (by simp) (AllReadyH.cons rfl (fun K hK => ?_) AllReadyH.nil)
            go_simp
            (with_reducible refine Calls.mono (HFK.out _ hGw5.2) ?_)
            rintro e w6 ⟨⟨P3, p3, P4, p4, rfl, hm6⟩, hb6⟩
            go_wp2_with fail
            refine hK.out _ _ (HS2.out _ (hGw5.2.trans (hb6.mono hGw5.2.size))) (fun hGw6 => ?_)
            clear hK K
            try simp only [Act.put, List.getElem_toArray, List.getElem_cons_zero, List.getElem_cons_succ, List.setIfInBounds_toArray, List.set_cons_zero, List.set_cons_succ]
            have hm56 := (hm5.below hb6).more hb6.size
            refine wpAnyH_ready (rs := [6]) (by kernel_rfl) (by simp) (AllReadyH.cons rfl (fun K hK => ?_) AllReadyH.nil)
            go_simp
            (with_reducible refine Calls.mono (HSM.out _ _ _ _ _ _ _ _ _ hm56 hm6) ?_)
            rintro e w7 ⟨rfl, hb7⟩
            go_wp2_with fail
            refine hK.out _ _ (HS2.out _ (hGw6.2.trans (hb7.mono hGw6.2.size))) (fun hH7 => ?_)
            clear hK K
            try simp only [Act.put, List.getElem_toArray, List.getElem_cons_zero, List.getElem_cons_succ, List.setIfInBounds_toArray, List.set_cons_zero, List.set_cons_succ]
            refine wpAnyH_take (i := 7) (v := ?_) rfl (by kernel_rfl) (by kernel_rfl) (by kernel_rfl) (fun _ _ _ h => h) (Or.inl ⟨by rfl, ?_⟩) hH7 ?_
            rotate_left
            · intro W hSw; (try dsimp only at hSw); go_simp; try with_reducible rfl
            try simp only [Act.put, List.getElem_toArray, List.getElem_cons_zero, List.getElem_cons_succ, List.setIfInBounds_toArray, List.set_cons_zero, List.set_cons_succ]
            refine wpAnyH_take (i := 8) (v := ?_) rfl (by kernel_rfl) (by kernel_rfl) (by kernel_rfl) (fun _ _ _ h => h) (Or.inl ⟨by rfl, ?_⟩) hH7 ?_
            rotate_left
            · intro W hSw; (try dsimp only at hSw); go_simp; try with_reducible rfl
            try simp only [Act.put, List.getElem_toArray, List.getElem_cons_zero, List.getElem_cons_succ, List.setIfInBounds_toArray, List.set_cons_zero, List.set_cons_succ]
            refine wpAnyH_take (i := 9) (v := ?_) rfl (by kernel_rfl) (by kernel_rfl) (by kernel_rfl) (fun _ _ _ h => h) (Or.inl ⟨by rfl, ?_⟩) hH7 ?_
            rotate_left
            · intro W hSw; (try dsimp only at hSw); go_simp; try with_reducible rfl
            try simp only [Act.put, List.getElem_toArray, List.getElem_cons_zero, List.getElem_cons_succ, List.setIfInBounds_toArray, List.set_cons_zero, List.set_cons_succ]
            refine wpAnyH_take (i := 10) (v := ?_) rfl (by kernel_rfl) (by kernel_rfl) (by kernel_rfl) (fun _ _ _ h => h) (Or.inl ⟨by rfl, ?_⟩) hH7 ?_
            rotate_left
            · intro W hSw; (try dsimp only at hSw); go_simp; try with_reducible rfl
            try simp only [Act.put, List.getElem_toArray, List.getElem_cons_zero, List.getElem_cons_succ, List.setIfInBounds_toArray, List.set_cons_zero, List.set_cons_succ]
            refine wpAnyH_take (i := 11) (v := ?_) rfl (by kernel_rfl) (by kernel_rfl) (by kernel_rfl) (fun _ _ _ h => h) (Or.inl ⟨by rfl, ?_⟩) hH7 ?_
            rotate_left
            · intro W hSw; (try dsimp only at hSw); go_simp; try with_reducible rfl
            try simp only [Act.put, List.getElem_toArray, List.getElem_cons_zero, List.getElem_cons_succ, List.setIfInBounds_toArray, List.set_cons_zero, List.set_cons_succ]
            refine wpAnyH_done (by kernel_rfl) ?_ _
            have HB8 := Lib.hid (HBc.out.trans (hH7.2.mono HBc.out.size))
            clear hH hGw5 hGw6 hH7 hb5 hb6 hb7 hm5 hm6 hm56
            go_wp2_with fail
            go_ret
            exact ⟨rfl, HB8.out⟩
        · have HK1 := Lib.hid (fun W => inl_any k 0 ((M.least.n : Int) - 1) W)
          rw [decide_eq_false hk] at HK1
          clear hk
          go_wp2_with fail
          refine (HI1.out _).mono ?_
          rintro e w' ⟨rfl, rfl⟩
          go_wp2_with fail
          refine (HK1.out _).mono ?_
          rintro e w' ⟨rfl, rfl⟩
          go_wp2_with fail
          go_ret
          exact ⟨rfl, HBc.out⟩
      · have HI1 := Lib.hid (fun W => inl_any i 0 ((M.least.n : Int) - 1) W)
        rw [decide_eq_false hi] at HI1
        clear hi
        go_wp2_with fail
        refine (HI1.out _).mono ?_
        rintro e w' ⟨rfl, rfl⟩
        go_wp2_with fail
        go_ret
        exact ⟨rfl, HBc.out⟩
    · rw [show errV 0 = .nilIface from rfl]
      go_wp2_with fail
      refine wp_region_held_drew (S := (fun W => (W.cell? ⟨W0.heap.size, 0, none⟩ = some (S M.sg) ∧ W.cell? ⟨W0.heap.size, 1, none⟩ = some (.slice A n c) ∧ W.cell? ⟨W0.heap.size, 2, none⟩ = some (.slice A2 m c2)) ∧ (W.cell? ⟨gL, 0, none⟩ = some (S M.sg) ∧ W.cell? ⟨gL, 1, none⟩ = some (.slice A3 M.least.n k3) ∧ W.cell? ⟨gL, 2, none⟩ = some (.slice A4 M.least.n k4)) ∧ Below wb.heap.size wb W)) (by first | assumption | kernel_rfl | rfl) (HS.out _ (Below.refl wb.heap.size wb).drew) (fun hH => ?_)
      refine wpAnyH_take (i := 0) (v := ?_) rfl (by kernel_rfl) (by kernel_rfl) (by kernel_rfl) (fun _ _ _ h => h) (Or.inl ⟨by rfl, ?_⟩) hH ?_
      rotate_left
      · intro W hSw; (try dsimp only at hSw); go_simp; try with_reducible rfl
      try simp only [Act.put, List.getElem_toArray, List.getElem_cons_zero, List.getElem_cons_succ, List.setIfInBounds_toArray, List.set_cons_zero, List.set_cons_succ]
      refine wpAnyH_take (i := 1) (v := ?_) rfl (by kernel_rfl) (by kernel_rfl) (by kernel_rfl) (fun _ _ _ h => h) (Or.inl ⟨by rfl, ?_⟩) hH ?_
      rotate_left
      · intro W hSw; (try dsimp only at hSw); go_simp; try with_reducible rfl
      try simp only [Act.put, List.getElem_toArray, List.getElem_cons_zero, List.getElem_cons_succ, List.setIfInBounds_toArray, List.set_cons_zero, List.set_cons_succ]
      refine wpAnyH_take (i := 2) (v := ?_) rfl (by kernel_rfl) (by kernel_rfl) (by kernel_rfl) (fun _ _ _ h => h) (Or.inl ⟨by rfl, ?_⟩) hH ?_
      rotate_left
      · intro W hSw; (try dsimp only at hSw); go_simp; try with_reducible rfl
      try simp only [Act.put, List.getElem_toArray, List.getElem_cons_zero, List.getElem_cons_succ, List.setIfInBounds_toArray, List.set_cons_zero, List.set_cons_succ]
      refine wpAnyH_take (i := 3) (v := ?_) rfl (by kernel_rfl) (by kernel_rfl) (by kernel_rfl) (fun _ _ _ h => h) (Or.inl ⟨by rfl, ?_⟩) hH ?_
      rotate_left
      · intro W hSw; (try dsimp only at hSw); go_simp; try with_reducible rfl
      try simp only [Act.put, List.getElem_toArray, List.getElem_cons_zero, List.getElem_cons_succ, List.setIfInBounds_toArray, List.set_cons_zero, List.set_cons_succ]
      refine wpAnyH_take (i := 4) (v := ?_) rfl (by kernel_rfl) (by kernel_rfl) (by kernel_rfl) (fun _ _ _ h => h) (Or.inl ⟨by rfl, ?_⟩) hH ?_
      rotate_left
      · intro W hSw; (try dsimp only at hSw); go_simp; try with_reducible rfl
      try simp only [Act.put, List.getElem_toArray, List.getElem_cons_zero, List.getElem_cons_succ, List.setIfInBounds_toArray, List.set_cons_zero, List.set_cons_succ]
      refine wpAnyH_take (i := 5) (v := ?_) rfl (by kernel_rfl) (by kernel_rfl) (by kernel_rfl) (fun _ _ _ h => h) (Or.inl ⟨by rfl, ?_⟩) hH ?_
      rotate_left
      · intro W hSw; (try dsimp only at hSw); go_simp; try with_reducible rfl
      try simp only [Act.put, List.getElem_toArray, List.getElem_cons_zero, List.getElem_cons_succ, List.setIfInBounds_toArray, List.set_cons_zero, List.set_cons_succ]
      refine wpAnyH_take (i := 6) (v := ?_) rfl (by kernel_rfl) (by kernel_rfl) (by kernel_rfl) (fun _ _ _ h => h) (Or.inl ⟨by rfl, ?_⟩) hH ?_
      rotate_left
      · intro W hSw; (try dsimp only at hSw); go_simp; try with_reducible rfl
      try simp only [Act.put, List.getElem_toArray, List.getElem_cons_zero, List.getElem_cons_succ, List.setIfInBounds_toArray, List.set_cons_zero, List.set_cons_succ]
      refine wpAnyH_take (i := 7) (v := ?_) rfl (by kernel_rfl) (by kernel_rfl) (by kernel_rfl) (fun _ _ _ h => h) (Or.inl ⟨by rfl, ?_⟩) hH ?_
      rotate_left
      · intro W hSw; (try dsimp only at hSw); go_simp; try with_reducible rfl
      try simp only [Act.put, List.getElem_toArray, List.getElem_cons_zero, List.getElem_cons_succ, List.setIfInBounds_toArray, List.set_cons_zero, List.set_cons_succ]
      refine wpAnyH_take (i := 8) (v := ?_) rfl (by kernel_rfl) (by kernel_rfl) (by kernel_rfl) (fun _ _ _ h => h) (Or.inl ⟨by rfl, ?_⟩) hH ?_
      rotate_left
      · intro W hSw; (try dsimp only at hSw); go_simp; try with_reducible rfl
      try simp only [Act.put, List.getElem_toArray, List.getElem_cons_zero, List.getElem_cons_succ, List.setIfInBounds_toArray, List.set_cons_zero, List.set_cons_succ]
      refine wpAnyH_take (i := 9) (v := ?_) rfl (by kernel_rfl) (by kernel_rfl) (by kernel_rfl) (fun _ _ _ h => h) (Or.inl ⟨by rfl, ?_⟩) hH ?_
      rotate_left
      · intro W hSw; (try dsimp only at hSw); go_simp; try with_reducible rfl
      try simp only [Act.put, List.getElem_toArray, List.getElem_cons_zero, List.getElem_cons_succ, List.setIfInBounds_toArray, List.set_cons_zero, List.set_cons_succ]
      refine wpAnyH_take (i := 10) (v := ?_) rfl (by kernel_rfl) (by kernel_rfl) (by kernel_rfl) (fun _ _ _ h => h) (Or.inl ⟨by rfl, ?_⟩) hH ?_
      rotate_left
      · intro W hSw; (try dsimp only at hSw); go_simp; try with_reducible rfl
      try simp only [Act.put, List.getElem_toArray, List.getElem_cons_zero, List.getElem_cons_succ, List.setIfInBounds_toArray, List.set_cons_zero, List.set_cons_succ]
      refine wpAnyH_take (i := 11) (v := ?_) rfl (by kernel_rfl) (by kernel_rfl) (by kernel_rfl) (fun _ _ _ h => h) (Or.inl ⟨by rfl, ?_⟩) hH ?_
      rotate_left
      · intro W hSw; (try dsimp only at hSw); go_simp; try with_reducible rfl
      try simp only [Act.put, List.getElem_toArray, List.getElem_cons_zero, List.getElem_cons_succ, List.setIfInBounds_toArray, List.set_cons_zero, List.set_cons_succ]
      refine wpAnyH_ready (rs := [12]) (by kernel_rfl) (by simp) (AllReadyH.cons rfl (fun K hK => ?_) AllReadyH.nil)
      go_simp
      (with_reducible refine Calls.mono (HWM.out _ hH.2.2) ?_)
      rintro e w5 ⟨rfl, hb5⟩
      go_wp2_with fail
      refine hK.out _ _ (HS.out _ (hH.2.2.trans (hb5.mono hH.2.2.size))) (fun hH5 => ?_)
      clear hK K
      try simp only [Act.put, List.getElem_toArray, List.getElem_cons_zero, List.getElem_cons_succ, List.setIfInBounds_toArray, List.set_cons_zero, List.set_cons_succ]
      refine wpAnyH_take (i := 13) (v := ?_) rfl (by kernel_rfl) (by kernel_rfl) (by kernel_rfl) (fun _ _ _ h => h) (Or.inl ⟨by rfl, ?_⟩) hH5 ?_
      rotate_left
      · intro W hSw; (try dsimp only at hSw); go_simp; try with_reducible rfl
      try simp only [Act.put, List.getElem_toArray, List.getElem_cons_zero, List.getElem_cons_succ, List.setIfInBounds_toArray, List.set_cons_zero, List.set_cons_succ]
      refine wpAnyH_take (i := 14) (v := ?_) rfl (by kernel_rfl) (by kernel_rfl) (by kernel_rfl) (fun _ _ _ h => h) (Or.inl ⟨by rfl, ?_⟩) hH5 ?_
      rotate_left
      · intro W hSw; (try dsimp only at hSw); go_simp; try with_reducible rfl
      try simp only [Act.put, List.getElem_toArray, List.getElem_cons_zero, List.getElem_cons_succ, List.setIfInBounds_toArray, List.set_cons_zero, List.set_cons_succ]
      refine wpAnyH_take (i := 15) (v := ?_) rfl (by kernel_rfl) (by kernel_rfl) (by kernel_rfl) (fun _ _ _ h => h) (Or.inl ⟨by rfl, ?_⟩) hH5 ?_
      rotate_left
      · intro W hSw; (try dsimp only at hSw); go_simp; try with_reducible rfl
      try simp only [Act.put, List.getElem_toArray, List.getElem_cons_zero, List.getElem_cons_succ, List.setIfInBounds_toArray, List.set_cons_zero, List.set_cons_succ]
      refine wpAnyH_take (i := 16) (v := ?_) rfl (by kernel_rfl) (by kernel_rfl) (by kernel_rfl) (fun _ _ _ h => h) (Or.inl ⟨by rfl, ?_⟩) hH5 ?_
      rotate_left
      · intro W hSw; (try dsimp only at hSw); go_simp; try with_reducible rfl
      try simp only [Act.put, List.getElem_toArray, List.getElem_cons_zero, List.getElem_cons_succ, List.setIfInBounds_toArray, List.set_cons_zero, List.set_cons_succ]
      refine wpAnyH_ready (rs := [17]) (by kernel_rfl) (by simp) (AllReadyH.cons rfl (fun K hK => ?_) AllReadyH.nil)
      go_simp
      (with_reducible refine Calls.mono (HWL.out _ hH5.2.2) ?_)
      rintro e w6 ⟨rfl, hb6⟩
      go_wp2_with fail
      refine hK.out _ _ (HS.out _ (hH5.2.2.trans (hb6.mono hH5.2.2.size))) (fun hH6 => ?_)
      clear hK K
      try simp only [Act.put, List.getElem_toArray, List.getElem_cons_zero, List.getElem_cons_succ, List.setIfInBounds_toArray, List.set_cons_zero, List.set_cons_succ]
      refine wpAnyH_take (i := 18) (v := ?_) rfl (by kernel_rfl) (by kernel_rfl) (by kernel_rfl) (fun _ _ _ h => h) (Or.inl ⟨by rfl, ?_⟩) hH6 ?_
      rotate_left
      · intro W hSw; (try dsimp only at hSw); go_simp; try with_reducible rfl
      try simp only [Act.put, List.getElem_toArray, List.getElem_cons_zero, List.getElem_cons_succ, List.setIfInBounds_toArray, List.set_cons_zero, List.set_cons_succ]
      refine wpAnyH_take (i := 19) (v := ?_) rfl (by kernel_rfl) (by kernel_rfl) (by kernel_rfl) (fun _ _ _ h => h) (Or.inl ⟨by rfl, ?_⟩) hH6 ?_
      rotate_left
      · intro W hSw; (try dsimp only at hSw); go_simp; try with_reducible rfl
      try simp only [Act.put, List.getElem_toArray, List.getElem_cons_zero, List.getElem_cons_succ, List.setIfInBounds_toArray, List.set_cons_zero, List.set_cons_succ]
      refine wpAnyH_take (i := 20) (v := ?_) rfl (by kernel_rfl) (by kernel_rfl) (by kernel_rfl) (fun _ _ _ h => h) (Or.inl ⟨by rfl, ?_⟩) hH6 ?_
      rotate_left
      · intro W hSw; (try dsimp only at hSw); go_simp; try with_reducible rfl
      try simp only [Act.put, List.getElem_toArray, List.getElem_cons_zero, List.getElem_cons_succ, List.setIfInBounds_toArray, List.set_cons_zero, List.set_cons_succ]
      refine wpAnyH_take (i := 21) (v := ?_) rfl (by kernel_rfl) (by kernel_rfl) (by kernel_rfl) (fun _ _ _ h => h) (Or.inl ⟨by rfl, ?_⟩) hH6 ?_
      rotate_left
      · intro W hSw; (try dsimp only at hSw); go_simp; try with_reducible rfl
      try simp only [Act.put, List.getElem_toArray, List.getElem_cons_zero, List.getElem_cons_succ, List.setIfInBounds_toArray, List.set_cons_zero, List.set_cons_succ]
      refine wpAnyH_take (i := 22) (v := ?_) rfl (by kernel_rfl) (by kernel_rfl) (by kernel_rfl) (fun _ _ _ h => h) (Or.inl ⟨by rfl, ?_⟩) hH6 ?_
      rotate_left
      · intro W hSw; (try dsimp only at hSw); go_simp; try with_reducible rfl
      try simp only [Act.put, List.getElem_toArray, List.getElem_cons_zero, List.getElem_cons_succ, List.setIfInBounds_toArray, List.set_cons_zero, List.set_cons_succ]
      refine wpAnyH_take (i := 23) (v := ?_) rfl (by kernel_rfl) (by kernel_rfl) (by kernel_rfl) (fun _ _ _ h => h) (Or.inl ⟨by rfl, ?_⟩) hH6 ?_
      rotate_left
      · intro W hSw; (try dsimp only at hSw); go_simp; try with_reducible rfl
      try simp only [Act.put, List.getElem_toArray, List.getElem_cons_zero, List.getElem_cons_succ, List.setIfInBounds_toArray, List.set_cons_zero, List.set_cons_succ]
      refine wpAnyH_take (i := 24) (v := ?_) rfl (by kernel_rfl) (by kernel_rfl) (by kernel_rfl) (fun _ _ _ h => h) (Or.inl ⟨by rfl, ?_⟩) hH6 ?_
      rotate_left
      · intro W hSw; (try dsimp only at hSw); go_simp; try with_reducible rfl
      try simp only [Act.put, List.getElem_toArray, List.getElem_cons_zero, List.getElem_cons_succ, List.setIfInBounds_toArray, List.set_cons_zero, List.set_cons_succ]
      refine wpAnyH_take (i := 25) (v := ?_) rfl (by kernel_rfl) (by kernel_rfl) (by kernel_rfl) (fun _ _ _ h => h) (Or.inl ⟨by rfl, ?_⟩) hH6 ?_
      rotate_left
      · intro W hSw; (try dsimp only at hSw); go_simp; try with_reducible rfl
      try simp only [Act.put, List.getElem_toArray, List.getElem_cons_zero, List.getElem_cons_succ, List.setIfInBounds_toArray, List.set_cons_zero, List.set_cons_succ]
      refine wpAnyH_take (i := 26) (v := ?_) rfl (by kernel_rfl) (by kernel_rfl) (by kernel_rfl) (fun _ _ _ h => h) (Or.inl ⟨by rfl, ?_⟩) hH6 ?_
      rotate_left
      · intro W hSw; (try dsimp only at hSw); go_simp; try with_reducible rfl
      try simp only [Act.put, List.getElem_toArray, List.getElem_cons_zero, List.getElem_cons_succ, List.setIfInBounds_toArray, List.set_cons_zero, List.set_cons_succ]
      refine wpAnyH_take (i := 27) (v := ?_) rfl (by kernel_rfl) (by kernel_rfl) (by kernel_rfl) (fun _ _ _ h => h) (Or.inl ⟨by rfl, ?_⟩) hH6 ?_
      rotate_left
      · intro W hSw; (try dsimp only at hSw); go_simp; try with_reducible rfl
      try simp only [Act.put, List.getElem_toArray, List.getElem_cons_zero, List.getElem_cons_succ, List.setIfInBounds_toArray, List.set_cons_zero, List.set_cons_succ]
      refine wpAnyH_take (i := 28) (v := ?_) rfl (by kernel_rfl) (by kernel_rfl) (by kernel_rfl) (fun _ _ _ h => h) (Or.inl ⟨by rfl, ?_⟩) hH6 ?_
      rotate_left
      · intro W hSw; (try dsimp only at hSw); go_simp; try with_reducible rfl
      try simp only [Act.put, List.getElem_toArray, List.getElem_cons_zero, List.getElem_cons_succ, List.setIfInBounds_toArray, List.set_cons_zero, List.set_cons_succ]
      refine wpAnyH_done (by kernel_rfl) ?_ _
      have HBW := Lib.hid hH6.2.2
      obtain ⟨b0, b1, b2⟩ := hH6.2.1
      have HS2 : Hid (∀ W, Below w6.heap.size w6 W → (W.cell? ⟨gL, 0, none⟩ = some (S M.sg) ∧ W.cell? ⟨gL, 1, none⟩ = some (.slice A3 M.least.n k3) ∧ W.cell? ⟨gL, 2, none⟩ = some (.slice A4 M.least.n k4)) ∧ Below w6.heap.size w6 W) := Lib.hid fun W hb => ⟨(HS.out W (HBW.out.trans (hb.mono HBW.out.size))).2.1, hb⟩
      have HBc := Lib.hid (HB7.out.trans (HBW.out.mono HB7.out.size))
      have HMc := Lib.hid ((HM7.out.below HBW.out).more HBW.out.size)
      clear hH hH5 hH6 hb5 hb6 HS HWM HWL c0 c1 c2' d0 d1 d2
      generalize w6 = wc at *
      have q3 : IntKind.i64.wrap ((M.least.n : Int) - 1) = (M.least.n : Int) - 1 := i64_in _ (by have := HL1000.out; omega)
      by_cases hi : 0 ≤ i ∧ i ≤ (M.least.n : Int) - 1
      · have HI1 := Lib.hid (fun W => inl_any i 0 ((M.least.n : Int) - 1) W)
        rw [decide_eq_true hi] at HI1
        obtain ⟨i0, rfl⟩ : ∃ i0 : Nat, i = (i0 : Int) := ⟨i.toNat, by omega⟩
        have HI0 : Hid (i0 < M.least.n) := Lib.hid (by omega)
        clear hi
        by_cases hk : 0 ≤ k ∧ k ≤ (M.least.n : Int) - 1
        · have HK1 := Lib.hid (fun W => inl_any k 0 ((M.least.n : Int) - 1) W)
          rw [decide_eq_true hk] at HK1
          obtain ⟨k0, rfl⟩ : ∃ k0 : Nat, k = (k0 : Int) := ⟨k.toNat, by omega⟩
          have HK0 : Hid (k0 < M.least.n) := Lib.hid (by omega)
          clear hk
          by_cases hik : i0 = k0
          · subst hik
            have q4 : ((i0 : Int) == (i0 : Int)) = true := by simp
            go_wp2_with fail
            refine (HI1.out _).mono ?_
            rintro e w' ⟨rfl, rfl⟩
            go_wp2_with fail
            refine (HK1.out _).mono ?_
            rintro e w' ⟨rfl, rfl⟩
            go_wp2_with fail
            go_ret
            exact ⟨rfl, HBc.out⟩
          · have HIK := Lib.hid hik
            have q4 : ((i0 : Int) == (k0 : Int)) = false := by simp; omega
            have q5 : (i0 == k0) = false := by simp; omega
            go_wp2_with fail
            refine (HI1.out _).mono ?_
            rintro e w' ⟨rfl, rfl⟩
            go_wp2_with fail
            refine (HK1.out _).mono ?_
            rintro e w' ⟨rfl, rfl⟩
            have HFI : Hid (∀ W, Below wc.heap.size wc W → Calls Try.prog 12 #[mcv M.sg A3 M.least.n k3 A4 M.least.n k4, .int .i64 (i0 : Int)] W fun e w' => (∃ A' k' A2' k2', e = .returned (mcv M.sg A' M.least.n k' A2' M.least.n k2') ∧ MacW w' w'.heap.size A' M.least.n A2' M.least.n (M.least.frm i0)) ∧ Below W.heap.size W w') := Lib.hid fun W hb => from_any M.least HLO.out i0 HI0.out A3 A4 M.least.n k3 M.least.n k4 wc.heap.size W (HMc.out.below hb) hb.size
            have HFK : Hid (∀ W, Below wc.heap.size wc W → Calls Try.prog 12 #[mcv M.sg A3 M.least.n k3 A4 M.least.n k4, .int .i64 (k0 : Int)] W fun e w' => (∃ A' k' A2' k2', e = .returned (mcv M.sg A' M.least.n k' A2' M.least.n k2') ∧ MacW w' w'.heap.size A' M.least.n A2' M.least.n (M.least.frm k0)) ∧ Below W.heap.size W w') := Lib.hid fun W hb => from_any M.least HLO.out k0 HK0.out A3 A4 M.least.n k3 M.least.n k4 wc.heap.size W (HMc.out.below hb) hb.size
            have HSM : Hid (∀ (P1 P2 P3 P4 : Option Addr) (p1 p2 p3 p4 : Nat) (W : World), MacW W W.heap.size P1 M.least.n P2 M.least.n (M.least.frm i0) → MacW W W.heap.size P3 M.least.n P4 M.least.n (M.least.frm k0) → Calls Try.prog 7 #[mcv M.sg P1 M.least.n p1 P2 M.least.n p2, mcv M.sg P3 M.least.n p3 P4 M.least.n p4] W fun e w' => e = .returned (.tuple #[.bool false, .nilIface]) ∧ Below W.heap.size W w') := Lib.hid fun P1 P2 P3 P4 p1 p2 p3 p4 W h1 h2 => by
              have h := same_any (M.least.frm i0) (M.least.frm k0) P1 P2 P3 P4 M.least.n p1 M.least.n p2 M.least.n p3 M.least.n p4 W.heap.size W h1 h2 (Nat.le_refl _)
              have hs := same_mc (Mc.frm_ok HLO.out HI0.out) (Mc.frm_ok HLO.out HK0.out) rfl
              rw [hs.1, hs.2, decide_eq_false (Mc.nerode HO.out HI0.out HK0.out HIK.out)] at h
              exact h
            clear hik
            go_upto_region 14 with fail
            clear b0 b1 b2
            refine wp_region_held_drew (S := (fun W => (W.cell? ⟨gL, 0, none⟩ = some (S M.sg) ∧ W.cell? ⟨gL, 1, none⟩ = some (.slice A3 M.least.n k3) ∧ W.cell? ⟨gL, 2, none⟩ = some (.slice A4 M.least.n k4)) ∧ Below wc.heap.size wc W)) (by first | assumption | kernel_rfl | rfl) (HS2.out _ (Below.refl wc.heap.size wc).drew) (fun hH => ?_)
            refine wpAnyH_take (i := 0) (v := ?_) rfl (by kernel_rfl) (by kernel_rfl) (by kernel_rfl) (fun _ _ _ h => h) (Or.inl ⟨by rfl, ?_⟩) hH ?_
            rotate_left
            · intro W hSw; (try dsimp only at hSw); go_simp; try with_reducible rfl
            try simp only [Act.put, List.getElem_toArray, List.getElem_cons_zero, List.getElem_cons_succ, List.setIfInBounds_toArray, List.set_cons_zero, List.set_cons_succ]
            refine wpAnyH_take (i := 1) (v := ?_) rfl (by kernel_rfl) (by kernel_rfl) (by kernel_rfl) (fun _ _ _ h => h) (Or.inl ⟨by rfl, ?_⟩) hH ?_
            rotate_left
            · intro W hSw; (try dsimp only at hSw); go_simp; try with_reducible rfl
            try simp only [Act.put, List.getElem_toArray, List.getElem_cons_zero, List.getElem_cons_succ, List.setIfInBounds_toArray, List.set_cons_zero, List.set_cons_succ]
            refine wpAnyH_take (i := 3) (v := ?_) rfl (by kernel_rfl) (by kernel_rfl) (by kernel_rfl) (fun _ _ _ h => h) (Or.inl ⟨by rfl, ?_⟩) hH ?_
            rotate_left
            · intro W hSw; (try dsimp only at hSw); go_simp; try with_reducible rfl
            try simp only [Act.put, List.getElem_toArray, List.getElem_cons_zero, List.getElem_cons_succ, List.setIfInBounds_toArray, List.set_cons_zero, List.set_cons_succ]
            refine wpAnyH_take (i := 4) (v := ?_) rfl (by kernel_rfl) (by kernel_rfl) (by kernel_rfl) (fun _ _ _ h => h) (Or.inl ⟨by rfl, ?_⟩) hH ?_
            rotate_left
            · intro W hSw; (try dsimp only at hSw); go_simp; try with_reducible rfl
            try simp only [Act.put, List.getElem_toArray, List.getElem_cons_zero, List.getElem_cons_succ, List.setIfInBounds_toArray, List.set_cons_zero, List.set_cons_succ]
            refine wpAnyH_ready (rs := [2]) (by kernel_rfl) (by simp) (AllReadyH.cons rfl (fun K hK => ?_) AllReadyH.nil)
            go_simp
            (with_reducible refine Calls.mono (HFI.out _ hH.2) ?_)
            rintro e w5 ⟨⟨P1, p1, P2, p2, rfl, hm5⟩, hb5⟩
            go_wp2_with fail
            refine hK.out _ _ (HS2.out _ (hH.2.trans (hb5.mono hH.2.size))) (fun hGw5 => ?_)
            clear hK K
            try simp only [Act.put, List.getElem_toArray, List.getElem_cons_zero, List.getElem_cons_succ, List.setIfInBounds_toArray, List.set_cons_zero, List.set_cons_succ]
            refine wpAnyH_ready (rs := [5]) (by kernel_rfl) (by simp) (AllReadyH.cons rfl (fun K hK => ?_) AllReadyH.nil)
            go_simp
            (with_reducible refine Calls.mono (HFK.out _ hGw5.2) ?_)
            rintro e w6 ⟨⟨P3, p3, P4, p4, rfl, hm6⟩, hb6⟩
            go_wp2_with fail
            refine hK.out _ _ (HS2.out _ (hGw5.2.trans (hb6.mono hGw5.2.size))) (fun hGw6 => ?_)
            clear hK K
            try simp only [Act.put, List.getElem_toArray, List.getElem_cons_zero, List.getElem_cons_succ, List.setIfInBounds_toArray, List.set_cons_zero, List.set_cons_succ]
            have hm56 := (hm5.below hb6).more hb6.size
            refine wpAnyH_ready (rs := [6]) (by kernel_rfl) (by simp) (AllReadyH.cons rfl (fun K hK => ?_) AllReadyH.nil)
            go_simp
            (with_reducible refine Calls.mono (HSM.out _ _ _ _ _ _ _ _ _ hm56 hm6) ?_)
            rintro e w7 ⟨rfl, hb7⟩
            go_wp2_with fail
            refine hK.out _ _ (HS2.out _ (hGw6.2.trans (hb7.mono hGw6.2.size))) (fun hH7 => ?_)
            clear hK K
            try simp only [Act.put, List.getElem_toArray, List.getElem_cons_zero, List.getElem_cons_succ, List.setIfInBounds_toArray, List.set_cons_zero, List.set_cons_succ]
            refine wpAnyH_take (i := 7) (v := ?_) rfl (by kernel_rfl) (by kernel_rfl) (by kernel_rfl) (fun _ _ _ h => h) (Or.inl ⟨by rfl, ?_⟩) hH7 ?_
            rotate_left
            · intro W hSw; (try dsimp only at hSw); go_simp; try with_reducible rfl
            try simp only [Act.put, List.getElem_toArray, List.getElem_cons_zero, List.getElem_cons_succ, List.setIfInBounds_toArray, List.set_cons_zero, List.set_cons_succ]
            refine wpAnyH_take (i := 8) (v := ?_) rfl (by kernel_rfl) (by kernel_rfl) (by kernel_rfl) (fun _ _ _ h => h) (Or.inl ⟨by rfl, ?_⟩) hH7 ?_
            rotate_left
            · intro W hSw; (try dsimp only at hSw); go_simp; try with_reducible rfl
            try simp only [Act.put, List.getElem_toArray, List.getElem_cons_zero, List.getElem_cons_succ, List.setIfInBounds_toArray, List.set_cons_zero, List.set_cons_succ]
            refine wpAnyH_take (i := 9) (v := ?_) rfl (by kernel_rfl) (by kernel_rfl) (by kernel_rfl) (fun _ _ _ h => h) (Or.inl ⟨by rfl, ?_⟩) hH7 ?_
            rotate_left
            · intro W hSw; (try dsimp only at hSw); go_simp; try with_reducible rfl
            try simp only [Act.put, List.getElem_toArray, List.getElem_cons_zero, List.getElem_cons_succ, List.setIfInBounds_toArray, List.set_cons_zero, List.set_cons_succ]
            refine wpAnyH_take (i := 10) (v := ?_) rfl (by kernel_rfl) (by kernel_rfl) (by kernel_rfl) (fun _ _ _ h => h) (Or.inl ⟨by rfl, ?_⟩) hH7 ?_
            rotate_left
            · intro W hSw; (try dsimp only at hSw); go_simp; try with_reducible rfl
            try simp only [Act.put, List.getElem_toArray, List.getElem_cons_zero, List.getElem_cons_succ, List.setIfInBounds_toArray, List.set_cons_zero, List.set_cons_succ]
            refine wpAnyH_take (i := 11) (v := ?_) rfl (by kernel_rfl) (by kernel_rfl) (by kernel_rfl) (fun _ _ _ h => h) (Or.inl ⟨by rfl, ?_⟩) hH7 ?_
            rotate_left
            · intro W hSw; (try dsimp only at hSw); go_simp; try with_reducible rfl
            try simp only [Act.put, List.getElem_toArray, List.getElem_cons_zero, List.getElem_cons_succ, List.setIfInBounds_toArray, List.set_cons_zero, List.set_cons_succ]
            refine wpAnyH_done (by kernel_rfl) ?_ _
            have HB8 := Lib.hid (HBc.out.trans (hH7.2.mono HBc.out.size))
            clear hH hGw5 hGw6 hH7 hb5 hb6 hb7 hm5 hm6 hm56
            go_wp2_with fail
            go_ret
            exact ⟨rfl, HB8.out⟩
        · have HK1 := Lib.hid (fun W => inl_any k 0 ((M.least.n : Int) - 1) W)
          rw [decide_eq_false hk] at HK1
          clear hk
          go_wp2_with fail
          refine (HI1.out _).mono ?_
          rintro e w' ⟨rfl, rfl⟩
          go_wp2_with fail
          refine (HK1.out _).mono ?_
          rintro e w' ⟨rfl, rfl⟩
          go_wp2_with fail
          go_ret
          exact ⟨rfl, HBc.out⟩
      · have HI1 := Lib.hid (fun W => inl_any i 0 ((M.least.n : Int) - 1) W)
        rw [decide_eq_false hi] at HI1
        clear hi
        go_wp2_with fail
        refine (HI1.out _).mono ?_
        rintro e w' ⟨rfl, rfl⟩
        go_wp2_with fail
        go_ret
        exact ⟨rfl, HBc.out⟩
  · have HW := Lib.hid hw
    have HCK := Lib.hid (of_err M A A2 n c m c2 W0.heap.size w3 hm3 HB3.out.size hw)
    clear hw hm3
    go_wp2_with fail
    clear a0 a1 a2
    refine HCK.out.mono ?_
    rw [err_ne HW.out]
    rintro e w4 ⟨rfl, hb4⟩
    have h4 := At3.new w4 [] none 0 0 none 0 0
    obtain ⟨b0, b1, b2⟩ := h4.cells
    have HB4 := Lib.hid ((HB3.out.trans (hb4.mono HB3.out.size)).alloc (by have := hb4.size; have := HB3.out.size; omega) (.cells #[S [], .slice none 0 0, .slice none 0 0] 25))
    clear hb4 HCK h4
    go_wp2_with fail
    go_ret
    exact ⟨rfl, HB4.out⟩
end Go.Proofs.Ytfglajddibjnjaa
