/- The walk over the law DyckSays. Condition: errors.errorType reads as the handle of the type error. -/
import Derived.Test.YthhfkndhdjffgaaDoorDyckC
namespace Go.Proofs.YthhfkndhdjffgaaDoor
open Go.RowKit DyckM
attribute [local go_sem] byte_at str_app

theorem before_irr : ∀ l : List UInt8, before l l = false := by
  intro l
  induction l with
  | nil => rfl
  | cons c r ih => unfold before; rw [if_pos rfl]; exact ih
/-- What Every lays behind nothing. -/
def ev (m : Nat) : List (List UInt8) := (every m 0).map (([] : List UInt8) ++ ·)
theorem ev_eq (m : Nat) : ev m = every m 0 := by simp [ev]
theorem ev_len {m k : Nat} (h : m = 2 * k) : ((ev m).length : Int) = W m 0 := by
  rw [ev_eq]; exact every_len m 0 (by omega) (by omega) ⟨k, by omega⟩
theorem ev_at {m k p : Nat} (h : m = 2 * k) (hp : (p : Int) < W m 0) : li (ev m) p = atL m 0 p := by
  rw [ev_eq]; have := every_at m 0 (p : Int) (by omega) (by omega) ⟨k, by omega⟩ (by omega) hp
  simpa using this
/-- The place of a text: no text before it is the text. -/
theorem ev_place {l : List UInt8} (h : chk l = 0) : ∃ p : Nat, placeGo l 0 0 = p ∧ p < (ev l.length).length ∧ li (ev l.length) p = l ∧ ∀ j, j < p → li (ev l.length) j ≠ l := by
  obtain ⟨h1, h2⟩ := chk_zero h
  obtain ⟨k, hk⟩ := parity l 0 h2
  obtain ⟨a, b, c⟩ := place_spec l 0 (by omega) h2
  obtain ⟨p, hp⟩ : ∃ p : Nat, placeGo l 0 0 = p := ⟨(placeGo l 0 0).toNat, by omega⟩
  rw [hp] at b c
  have hk' : l.length = 2 * k.toNat := by omega
  refine ⟨p, hp, by have := ev_len hk'; omega, by rw [ev_at hk' b]; exact c, ?_⟩
  intro j hj he
  rw [ev_at hk' (by omega)] at he
  have := at_mono l.length 0 j p (by omega) (by omega) (by omega) b
  rw [he, c, before_irr] at this
  cases this
theorem ev_any (m k : Nat) (w : World) (h : m = 2 * k) (hm : m ≤ 16) :
    Calls Tryd.prog 7 #[.string ⟨#[]⟩, .int .i64 0, .int .i64 (m : Int)] w fun e w' => ∃ v, e = .returned v ∧ ResS w w' v (ev m) :=
  every_any m [] 0 w (by omega) (by omega) ⟨k, by omega⟩ hm (by simpa using hm)
theorem li_ne {a b : List UInt8} (h : a ≠ b) : (a == b) = false := by rw [beq_eq_false_iff_ne]; exact h
theorem ev_at_ {N p : Nat} (h : (p : Int) ≤ many (N : Int) - 1) : p < (ev (2 * N)).length ∧ li (ev (2 * N)) p = at_ (N : Int) (p : Int) := by
  rw [many_nat] at h
  have h1 := ev_len (m := 2 * N) rfl
  refine ⟨by omega, ?_⟩
  rw [at_eq, ev_at rfl (by omega)]; simp
set_option maxRecDepth 100000 in
set_option maxHeartbeats 4000000 in
theorem dyckSays_walk (l : List UInt8) (n p : Int) (w : World) (hl : l.length ≤ 9223372036854775807) (hg : HG w) :
    Calls Tryd.prog 3 #[S l, .int .i64 n, .int .i64 p] w fun e w' => e = .returned (.bool true) ∧ Below w.heap.size w w' := by
  have HGH := Lib.hid hg; clear hg
  go_enter Tryd.func3, Tryd.ntmps3
  go_wp2_with fail
  refine (brackets_any l w hl).mono ?_
  rintro e w1 ⟨rfl, rfl⟩
  go_wp2_with fail
  refine (check_any l w hl).mono ?_
  rintro e w1 ⟨rfl, hb1⟩
  have HB1 := Lib.hid hb1; clear hb1
  go_wp2_with fail
  refine (error_any (chk l) (chk l) _ (HGH.out.below HB1.out (Nat.le_refl _))).mono ?_
  rintro e w2 ⟨rfl, hb2⟩
  have HB2 := Lib.hid (HB1.out.trans (hb2.mono HB1.out.size)); clear hb2 HB1
  by_cases hk : chk l = 0
  focus
    obtain ⟨P, q1, q2, q3, q4⟩ := ev_place hk
    obtain ⟨h16, hpar⟩ := chk_zero hk
    obtain ⟨k, hpar⟩ := parity l 0 hpar
    have Q1 := Lib.hid q1
    have Q3 := Lib.hid q3
    have Q4 := Lib.hid q4
    have HK := Lib.hid hk
    rw [hk]
    clear q1 q3 q4 hk
    go_wp2_with fail
    refine (ev_any l.length k.toNat _ (by omega) h16).mono ?_
    rintro e w3 ⟨v, rfl, A1, c1, rfl, hc1, hi1, hb3⟩
    have HB3 := Lib.hid (HB2.out.trans (hb3.mono HB2.out.size)); clear hb3 HB2
    have hsm : (ev l.length).length ≤ 65536 := by rw [ev_eq]; exact every_small _ 0 (by omega) (by omega) ⟨k, by omega⟩ h16
    generalize ev l.length = E at *
    generalize hX : E.length = n1 at *
    clear hpar hc1
    go_wp2_with fail
    go_loopg [9] P (fun f pv wr => ∃ j : Nat, j + f = P ∧ pv = .int .i64 j ∧ w3 = wr)
    case atStart => exact ⟨0, by omega, rfl, rfl⟩
    case round =>
      obtain ⟨j, hj, rfl, rfl⟩ := hrel
      obtain ⟨b, off, hAe, hb, hc2⟩ := hi1.at_ (show j < n1 by omega)
      subst hAe
      by_cases hlt : j < P
      · obtain ⟨f, rfl⟩ : ∃ f, gk = f + 1 := ⟨gk - 1, by omega⟩
        have hne := li_ne (Q4.out j hlt)
        go_wp2_with fail
        go_roundg f
        case measure => omega
        case rel => exact ⟨j + 1, by omega, by simp, rfl⟩
      · obtain rfl : j = P := by omega
        rw [Q3.out] at hc2
        go_wp2_with fail
        refine (place_ok l _ HK.out).mono ?_
        rintro e w4 ⟨rfl, hb4⟩
        have HB4 := Lib.hid (HB3.out.trans (hb4.mono HB3.out.size)); clear hb4 HB3
        rw [Q1.out]
        go_wp2_with fail
        refine (error_any 0 0 _ (HGH.out.below HB4.out (Nat.le_refl _))).mono ?_
        rintro e w5 ⟨rfl, hb5⟩
        have HB5 := Lib.hid (HB4.out.trans (hb5.mono HB4.out.size)); clear hb5 HB4 hi1 hc2 hb
        go_wp2_with fail
        by_cases hn : 0 ≤ n ∧ n ≤ 8
        · obtain ⟨N, rfl⟩ : ∃ N : Nat, n = N := ⟨n.toNat, by omega⟩
          have HN := Lib.hid (show N ≤ 8 by omega)
          have HD := Lib.hid (show decide (0 ≤ (N : Int) ∧ (N : Int) ≤ 8) = true by simp; omega)
          clear hn
          refine (in_any _ _ _ _).mono ?_
          rintro e w6 ⟨rfl, rfl⟩
          rw [HD.out]
          go_wp2_with fail
          refine (catalan_any N _ HN.out).mono ?_
          rintro e w6 ⟨rfl, hb6⟩
          have HB6 := Lib.hid (HB5.out.trans (hb6.mono HB5.out.size)); clear hb6 HB5
          go_wp2_with fail
          refine (many_ok N _ (by omega) (by have := HN.out; omega)).mono ?_
          rintro e w7 ⟨rfl, rfl⟩
          go_wp2_with fail
          refine (error_any 0 0 _ (HGH.out.below HB6.out (Nat.le_refl _))).mono ?_
          rintro e w7 ⟨rfl, hb7⟩
          have HB7 := Lib.hid (HB6.out.trans (hb7.mono HB6.out.size)); clear hb7 HB6
          have HM := Lib.hid (many_le N HN.out)
          by_cases hp : 0 ≤ p ∧ p ≤ many (N : Int) - 1
          · obtain ⟨Q, rfl⟩ : ∃ Q : Nat, p = Q := ⟨p.toNat, by omega⟩
            obtain ⟨z1, z2⟩ := ev_at_ (N := N) (p := Q) (by omega)
            have hsm : (ev (2 * N)).length ≤ 65536 := by rw [ev_eq]; exact every_small _ 0 (by omega) (by omega) ⟨N, by omega⟩ (by have := HN.out; omega)
            have HA := Lib.hid (at_ok N Q · (by omega) (by have := HN.out; omega) hp)
            have HD2 := Lib.hid (show decide (0 ≤ (Q : Int) ∧ (Q : Int) ≤ many (N : Int) - 1) = true by simp; omega)
            have CALL : Hid (∀ w, Calls Tryd.prog 7 #[.string ⟨#[]⟩, .int .i64 0, .int .i64 (2 * (N : Int))] w fun e w' => ∃ v, e = .returned v ∧ ResS w w' v (ev (2 * N))) := by
              intro w
              have := ev_any (2 * N) N w rfl (by have := HN.out; omega)
              rwa [show ((2 * N : Nat) : Int) = 2 * (N : Int) by omega] at this
            generalize ev (2 * N) = E at *
            generalize hX : E.length = n2 at *
            have hM1 := HM.out.2
            have hM2 := HM.out.1
            have hN8 := HN.out
            generalize many (N : Int) = M at *
            clear hp
            go_wp2_with fail
            refine (in_any _ _ _ _).mono ?_
            rintro e w8 ⟨rfl, rfl⟩
            rw [HD2.out]
            go_wp2_with fail
            refine (CALL.out _).mono ?_
            rintro e w8 ⟨v, rfl, A1, c1, rfl, hc1, hi1, hb8⟩
            have HB8 := Lib.hid (HB7.out.trans (hb8.mono HB7.out.size)); clear hb8 HB7
            rw [hX] at hi1 ⊢
            obtain ⟨b, off, hAe, hb, hc2⟩ := hi1.at_ z1
            subst hAe
            rw [z2] at hc2
            clear hc1 z2
            go_wp2_with fail
            refine (HA.out _).mono ?_
            rintro e w9 ⟨rfl, rfl⟩
            generalize at_ (N : Int) (Q : Int) = T at *
            go_wp2_with fail
            refine (error_any 0 0 _ (HGH.out.below HB8.out (Nat.le_refl _))).mono ?_
            rintro e w9 ⟨rfl, hb9⟩
            have HB9 := Lib.hid (HB8.out.trans (hb9.mono HB8.out.size)); clear hb9 HB8
            go_wp2_with fail
            go_ret
            exact ⟨ret_bool (by simp), HB9.out⟩
          · have HA := Lib.hid (at_no2 N p · (by omega) (by have := HN.out; omega) hp)
            have HD2 := Lib.hid (show decide (0 ≤ p ∧ p ≤ many (N : Int) - 1) = false from decide_eq_false hp)
            have hM1 := HM.out.2
            have hM2 := HM.out.1
            have hN8 := HN.out
            generalize many (N : Int) = M at *
            clear hp
            go_wp2_with fail
            refine (in_any _ _ _ _).mono ?_
            rintro e w8 ⟨rfl, rfl⟩
            rw [HD2.out]
            go_wp2_with fail
            refine (HA.out _).mono ?_
            rintro e w9 ⟨rfl, rfl⟩
            go_wp2_with fail
            refine (error_any 1 1 _ (HGH.out.below HB7.out (Nat.le_refl _))).mono ?_
            rintro e w9 ⟨rfl, hb9⟩
            have HB9 := Lib.hid (HB7.out.trans (hb9.mono HB7.out.size)); clear hb9 HB7
            go_wp2_with fail
            go_ret
            exact ⟨ret_bool (by simp), HB9.out⟩
        · have HN := Lib.hid hn
          have HD := Lib.hid (show decide (0 ≤ n ∧ n ≤ 8) = false from decide_eq_false hn)
          clear hn
          refine (in_any _ _ _ _).mono ?_
          rintro e w6 ⟨rfl, rfl⟩
          rw [HD.out]
          go_wp2_with fail
          refine (many_no n _ HN.out).mono ?_
          rintro e w7 ⟨rfl, rfl⟩
          go_wp2_with fail
          refine (error_any 1 1 _ (HGH.out.below HB5.out (Nat.le_refl _))).mono ?_
          rintro e w7 ⟨rfl, hb7⟩
          have HB7 := Lib.hid (HB5.out.trans (hb7.mono HB5.out.size)); clear hb7 HB5
          go_wp2_with fail
          refine (at_no1 n p _ HN.out).mono ?_
          rintro e w8 ⟨rfl, rfl⟩
          go_wp2_with fail
          refine (error_any 1 1 _ (HGH.out.below HB7.out (Nat.le_refl _))).mono ?_
          rintro e w9 ⟨rfl, hb9⟩
          have HB9 := Lib.hid (HB7.out.trans (hb9.mono HB7.out.size)); clear hb9 HB7
          go_wp2_with fail
          go_ret
          exact ⟨ret_bool (by simp), HB9.out⟩
  focus
    have Hk := Lib.hid hk
    have e0 : (chk l == 0) = false := by rw [beq_eq_false_iff_ne]; exact hk
    clear hk
    go_wp2_with fail
    refine (place_no l _ hl Hk.out).mono ?_
    rintro e w4 ⟨rfl, hb4⟩
    have HB4 := Lib.hid (HB2.out.trans (hb4.mono HB2.out.size)); clear hb4 HB2
    rw [← err_ne Hk.out]
    clear e0
    go_wp2_with fail
    refine (error_any (chk l) (chk l) _ (HGH.out.below HB4.out (Nat.le_refl _))).mono ?_
    rintro e w5 ⟨rfl, hb5⟩
    have HB5 := Lib.hid (HB4.out.trans (hb5.mono HB4.out.size)); clear hb5 HB4 Hk
    generalize chk l = kk at *
    go_wp2_with fail
    by_cases hn : 0 ≤ n ∧ n ≤ 8
    · obtain ⟨N, rfl⟩ : ∃ N : Nat, n = N := ⟨n.toNat, by omega⟩
      have HN := Lib.hid (show N ≤ 8 by omega)
      have HD := Lib.hid (show decide (0 ≤ (N : Int) ∧ (N : Int) ≤ 8) = true by simp; omega)
      clear hn
      refine (in_any _ _ _ _).mono ?_
      rintro e w6 ⟨rfl, rfl⟩
      rw [HD.out]
      go_wp2_with fail
      refine (catalan_any N _ HN.out).mono ?_
      rintro e w6 ⟨rfl, hb6⟩
      have HB6 := Lib.hid (HB5.out.trans (hb6.mono HB5.out.size)); clear hb6 HB5
      go_wp2_with fail
      refine (many_ok N _ (by omega) (by have := HN.out; omega)).mono ?_
      rintro e w7 ⟨rfl, rfl⟩
      go_wp2_with fail
      refine (error_any 0 0 _ (HGH.out.below HB6.out (Nat.le_refl _))).mono ?_
      rintro e w7 ⟨rfl, hb7⟩
      have HB7 := Lib.hid (HB6.out.trans (hb7.mono HB6.out.size)); clear hb7 HB6
      have HM := Lib.hid (many_le N HN.out)
      by_cases hp : 0 ≤ p ∧ p ≤ many (N : Int) - 1
      · obtain ⟨Q, rfl⟩ : ∃ Q : Nat, p = Q := ⟨p.toNat, by omega⟩
        obtain ⟨z1, z2⟩ := ev_at_ (N := N) (p := Q) (by omega)
        have hsm : (ev (2 * N)).length ≤ 65536 := by rw [ev_eq]; exact every_small _ 0 (by omega) (by omega) ⟨N, by omega⟩ (by have := HN.out; omega)
        have HA := Lib.hid (at_ok N Q · (by omega) (by have := HN.out; omega) hp)
        have HD2 := Lib.hid (show decide (0 ≤ (Q : Int) ∧ (Q : Int) ≤ many (N : Int) - 1) = true by simp; omega)
        have CALL : Hid (∀ w, Calls Tryd.prog 7 #[.string ⟨#[]⟩, .int .i64 0, .int .i64 (2 * (N : Int))] w fun e w' => ∃ v, e = .returned v ∧ ResS w w' v (ev (2 * N))) := by
          intro w
          have := ev_any (2 * N) N w rfl (by have := HN.out; omega)
          rwa [show ((2 * N : Nat) : Int) = 2 * (N : Int) by omega] at this
        generalize ev (2 * N) = E at *
        generalize hX : E.length = n2 at *
        have hM1 := HM.out.2
        have hM2 := HM.out.1
        have hN8 := HN.out
        generalize many (N : Int) = M at *
        clear hp
        go_wp2_with fail
        refine (in_any _ _ _ _).mono ?_
        rintro e w8 ⟨rfl, rfl⟩
        rw [HD2.out]
        go_wp2_with fail
        refine (CALL.out _).mono ?_
        rintro e w8 ⟨v, rfl, A1, c1, rfl, hc1, hi1, hb8⟩
        have HB8 := Lib.hid (HB7.out.trans (hb8.mono HB7.out.size)); clear hb8 HB7
        rw [hX] at hi1 ⊢
        obtain ⟨b, off, hAe, hb, hc2⟩ := hi1.at_ z1
        subst hAe
        rw [z2] at hc2
        clear hc1 z2
        go_wp2_with fail
        refine (HA.out _).mono ?_
        rintro e w9 ⟨rfl, rfl⟩
        generalize at_ (N : Int) (Q : Int) = T at *
        go_wp2_with fail
        refine (error_any 0 0 _ (HGH.out.below HB8.out (Nat.le_refl _))).mono ?_
        rintro e w9 ⟨rfl, hb9⟩
        have HB9 := Lib.hid (HB8.out.trans (hb9.mono HB8.out.size)); clear hb9 HB8
        go_wp2_with fail
        go_ret
        exact ⟨ret_bool (by simp), HB9.out⟩
      · have HA := Lib.hid (at_no2 N p · (by omega) (by have := HN.out; omega) hp)
        have HD2 := Lib.hid (show decide (0 ≤ p ∧ p ≤ many (N : Int) - 1) = false from decide_eq_false hp)
        have hM1 := HM.out.2
        have hM2 := HM.out.1
        have hN8 := HN.out
        generalize many (N : Int) = M at *
        clear hp
        go_wp2_with fail
        refine (in_any _ _ _ _).mono ?_
        rintro e w8 ⟨rfl, rfl⟩
        rw [HD2.out]
        go_wp2_with fail
        refine (HA.out _).mono ?_
        rintro e w9 ⟨rfl, rfl⟩
        go_wp2_with fail
        refine (error_any 1 1 _ (HGH.out.below HB7.out (Nat.le_refl _))).mono ?_
        rintro e w9 ⟨rfl, hb9⟩
        have HB9 := Lib.hid (HB7.out.trans (hb9.mono HB7.out.size)); clear hb9 HB7
        go_wp2_with fail
        go_ret
        exact ⟨ret_bool (by simp), HB9.out⟩
    · have HN := Lib.hid hn
      have HD := Lib.hid (show decide (0 ≤ n ∧ n ≤ 8) = false from decide_eq_false hn)
      clear hn
      refine (in_any _ _ _ _).mono ?_
      rintro e w6 ⟨rfl, rfl⟩
      rw [HD.out]
      go_wp2_with fail
      refine (many_no n _ HN.out).mono ?_
      rintro e w7 ⟨rfl, rfl⟩
      go_wp2_with fail
      refine (error_any 1 1 _ (HGH.out.below HB5.out (Nat.le_refl _))).mono ?_
      rintro e w7 ⟨rfl, hb7⟩
      have HB7 := Lib.hid (HB5.out.trans (hb7.mono HB5.out.size)); clear hb7 HB5
      go_wp2_with fail
      refine (at_no1 n p _ HN.out).mono ?_
      rintro e w8 ⟨rfl, rfl⟩
      go_wp2_with fail
      refine (error_any 1 1 _ (HGH.out.below HB7.out (Nat.le_refl _))).mono ?_
      rintro e w9 ⟨rfl, hb9⟩
      have HB9 := Lib.hid (HB7.out.trans (hb9.mono HB7.out.size)); clear hb9 HB7
      go_wp2_with fail
      go_ret
      exact ⟨ret_bool (by simp), HB9.out⟩
end Go.Proofs.YthhfkndhdjffgaaDoor
