/- The walks over package dyck. -/
import Derived.Test.YthhfkndhdjffgaaDoorWords
import Derived.Test.YthhfkndhdjffgaaDoorAs
import Derived.Test.YthhfkndhdjffgaaDoorDyckM
namespace Go.Proofs.YthhfkndhdjffgaaDoor
open Go.RowKit DyckM
attribute [local go_sem] byte_at str_app

abbrev S (l : List UInt8) : Value := .string ⟨l.toArray⟩

set_option maxHeartbeats 400000 in
theorem long1_yes (m : Int) (l : List UInt8) (w : World) (b off : Nat) (hA : w.cell? ⟨b, off, none⟩ = some (S l)) (h : m < (l.length : Int)) :
    Calls Tryd.prog 14 #[.int .i64 m, .slice (some ⟨b, off, none⟩) 1 1] w fun e w' => e = .returned (.iface 37 (.int .i64 4)) ∧ w = w' := by
  go_enter Tryd.func14, Tryd.ntmps14
  go_wp2_with fail
  refine wp_loop_rounds 2 ?_
  rw [rounds_succ]
  go_wp2_with fail
  go_ret
  exact ⟨rfl, rfl⟩
set_option maxHeartbeats 400000 in
theorem long1_no (m : Int) (l : List UInt8) (w : World) (b off : Nat) (hA : w.cell? ⟨b, off, none⟩ = some (S l)) (h : (l.length : Int) ≤ m) :
    Calls Tryd.prog 14 #[.int .i64 m, .slice (some ⟨b, off, none⟩) 1 1] w fun e w' => e = .returned .nilIface ∧ w = w' := by
  go_enter Tryd.func14, Tryd.ntmps14
  go_wp2_with fail
  refine wp_loop_rounds 2 ?_
  rw [rounds_succ]
  go_wp2_with fail
  rw [rounds_succ]
  go_wp2_with fail
  go_ret
  exact ⟨rfl, rfl⟩
set_option maxHeartbeats 400000 in
theorem check_any (l : List UInt8) (w : World) (hl : l.length ≤ 9223372036854775807) :
    Calls Tryd.prog 6 #[S l] w fun e w' => e = .returned (errV (chk l)) ∧ Below w.heap.size w w' := by
  by_cases h16 : 16 < l.length
  · have HC := Lib.hid (show chk l = 4 by unfold chk; rw [if_pos h16])
    go_enter Tryd.func6, Tryd.ntmps6
    go_wp2_with fail
    refine (long1_yes 16 l _ _ _ ?_ (by omega)).mono ?_
    · simp [World.cell?_alloc_new]
    rintro e w' ⟨rfl, rfl⟩
    go_wp2_with fail
    go_ret
    exact ⟨by rw [HC.out]; rfl, (Below.refl _ _).alloc (Nat.le_refl _) _⟩
  · have HC := Lib.hid (show chk l = chkGo l 0 by unfold chk; rw [if_neg h16])
    go_enter Tryd.func6, Tryd.ntmps6
    go_wp2_with fail
    refine (long1_no 16 l _ _ _ ?_ (by omega)).mono ?_
    · simp [World.cell?_alloc_new]
    rintro e w' ⟨rfl, rfl⟩
    have HB := Lib.hid ((Below.refl w.heap.size w).alloc (Nat.le_refl _) (.cells #[S l] 9))
    go_wp2_with fail
    generalize w.alloc (.cells #[S l] 9) = w1 at *
    go_loopg [4, 14] l.length (fun f o i wr => ∃ k : Nat, ∃ op : Int, k + f = l.length ∧ i = .int .i64 k ∧ o = .int .i64 op ∧ 0 ≤ op ∧ op ≤ k ∧ w1 = wr ∧ chkGo (l.drop k) op = chk l)
    case atStart => exact ⟨0, 0, by omega, rfl, rfl, by omega, by omega, rfl, HC.out.symm⟩
    case round =>
      obtain ⟨k, op, hkf, rfl, rfl, h0, h1, rfl, hT⟩ := hrel
      by_cases hlt : k < l.length
      · rw [drop_bu hlt] at hT
        unfold chkGo at hT
        obtain ⟨f, rfl⟩ : ∃ f, gk = f + 1 := ⟨gk - 1, by omega⟩
        by_cases h40 : (bu l k).toNat = 40
        · rw [if_pos h40] at hT
          have HT := Lib.hid hT; clear hT
          have e1 : (((bu l k).toNat : Int) == 40) = true := by rw [beq_iff_eq]; omega
          clear h40
          go_wp2_with fail
          go_roundg f
          case measure => omega
          case rel => exact ⟨k + 1, op + 1, by omega, by simp, rfl, by omega, by omega, rfl, HT.out⟩
        · rw [if_neg h40] at hT
          have e1 : (((bu l k).toNat : Int) == 40) = false := by rw [beq_eq_false_iff_ne]; omega
          by_cases h41 : (bu l k).toNat = 41
          · rw [if_pos h41] at hT
            have e2 : (((bu l k).toNat : Int) == 41) = true := by rw [beq_iff_eq]; omega
            by_cases hop : op - 1 < 0
            · rw [if_pos hop] at hT
              have HT := Lib.hid hT; clear hT h41 h40
              go_wp2_with fail
              go_ret
              exact ⟨by rw [← HT.out]; rfl, HB.out⟩
            · rw [if_neg hop] at hT
              have HT := Lib.hid hT; clear hT h41 h40
              go_wp2_with fail
              go_roundg f
              case measure => omega
              case rel => exact ⟨k + 1, op - 1, by omega, by simp, rfl, by omega, by omega, rfl, HT.out⟩
          · rw [if_neg h41] at hT
            have e2 : (((bu l k).toNat : Int) == 41) = false := by rw [beq_eq_false_iff_ne]; omega
            have HT := Lib.hid hT; clear hT h41 h40
            go_wp2_with fail
            go_ret
            exact ⟨by rw [← HT.out]; rfl, HB.out⟩
      · rw [List.drop_of_length_le (by omega)] at hT
        unfold chkGo at hT
        by_cases h0 : op = 0
        · rw [if_pos h0] at hT
          subst h0
          have HT := Lib.hid hT; clear hT
          go_wp2_with fail
          go_ret
          exact ⟨by rw [← HT.out]; rfl, HB.out⟩
        · rw [if_neg h0] at hT
          have HT := Lib.hid hT; clear hT
          have e1 : (op == 0) = false := by rw [beq_eq_false_iff_ne]; omega
          have e2 : (op != 0) = true := by rw [bne_iff_ne]; omega
          clear h0
          go_wp2_with fail
          go_ret
          exact ⟨by rw [← HT.out]; rfl, HB.out⟩

set_option maxHeartbeats 400000 in
theorem ways_any : ∀ (m : Nat) (o : Int) (w : World), m ≤ 16 → -100 ≤ o → o ≤ 100 →
    Calls Tryd.prog 15 #[.int .i64 o, .int .i64 (m : Int)] w fun e w' => e = .returned (.int .i64 (W m o)) ∧ w = w' := by
  intro m
  induction m with
  | zero =>
    intro o w hm h1 h2
    by_cases h0 : o < 0
    · have HW := Lib.hid (W_out (m := 0) (o := o) (.inl h0))
      go_enter Tryd.func15, Tryd.ntmps15
      go_wp2_with fail
      go_ret
      exact ⟨by rw [HW.out]; rfl, rfl⟩
    · by_cases h3 : 0 < o
      · have HW := Lib.hid (W_out (m := 0) (o := o) (.inr (by omega)))
        go_enter Tryd.func15, Tryd.ntmps15
        go_wp2_with fail
        go_ret
        exact ⟨by rw [HW.out]; rfl, rfl⟩
      · obtain rfl : o = 0 := by omega
        go_enter Tryd.func15, Tryd.ntmps15
        go_wp2_with fail
        go_ret
        exact ⟨rfl, rfl⟩
  | succ m ih =>
    intro o w hm h1 h2
    have IH := Lib.hid ih; clear ih
    by_cases h0 : o < 0
    · have HW := Lib.hid (W_out (m := m + 1) (o := o) (.inl h0))
      go_enter Tryd.func15, Tryd.ntmps15
      go_wp2_with fail
      go_ret
      exact ⟨by rw [HW.out]; rfl, rfl⟩
    · by_cases h3 : (m : Int) + 1 < o
      · have HW := Lib.hid (W_out (m := m + 1) (o := o) (.inr (by omega)))
        go_enter Tryd.func15, Tryd.ntmps15
        go_wp2_with fail
        go_ret
        exact ⟨by rw [HW.out]; rfl, rfl⟩
      · have HW := Lib.hid (W_in (m := m) (o := o) (by omega) (by omega))
        have b1 := W_nonneg m (o + 1)
        have b2 := W_nonneg m (o - 1)
        have b3 := W_small (m := m) (o := o + 1) (by omega)
        have b4 := W_small (m := m) (o := o - 1) (by omega)
        replace b1 := b1.1
        replace b2 := b2.1
        go_enter Tryd.func15, Tryd.ntmps15
        go_wp2_with fail
        refine (IH.out (o + 1) _ (by omega) (by omega) (by omega)).mono ?_
        rintro e w' ⟨rfl, rfl⟩
        go_wp2_with fail
        refine (IH.out (o - 1) _ (by omega) (by omega) (by omega)).mono ?_
        rintro e w' ⟨rfl, rfl⟩
        go_wp2_with fail
        go_ret
        exact ⟨by rw [HW.out]; rfl, rfl⟩

set_option maxHeartbeats 400000 in
theorem within_any (n lo hi : Int) (w : World) :
    Calls Tryd.prog 16 #[.int .i64 n, .int .i64 lo, .int .i64 hi] w fun e w' => e = .returned (.bool (decide (lo ≤ n ∧ n ≤ hi))) ∧ w = w' := by
  by_cases h1 : lo ≤ n
  · by_cases h2 : n ≤ hi
    all_goals
      go_enter Tryd.func16, Tryd.ntmps16
      go_wp2
      go_ret
      exact ⟨by simp [h1, h2], rfl⟩
  · go_enter Tryd.func16, Tryd.ntmps16
    go_wp2
    go_ret
    exact ⟨ret_bool (by simp [show ¬ lo ≤ n from by omega]), rfl⟩
set_option maxHeartbeats 400000 in
theorem in_any (n lo hi : Int) (w : World) :
    Calls Tryd.prog 9 #[.int .i64 n, .int .i64 lo, .int .i64 hi] w fun e w' => e = .returned (.bool (decide (lo ≤ n ∧ n ≤ hi))) ∧ w = w' := by
  by_cases h1 : lo ≤ n
  · by_cases h2 : n ≤ hi
    all_goals
      go_enter Tryd.func9, Tryd.ntmps9
      go_wp2
      go_ret
      exact ⟨by simp [h1, h2], rfl⟩
  · go_enter Tryd.func9, Tryd.ntmps9
    go_wp2
    go_ret
    exact ⟨ret_bool (by simp [show ¬ lo ≤ n from by omega]), rfl⟩

set_option maxHeartbeats 400000 in
theorem many_ok (n : Int) (w : World) (h0 : 0 ≤ n) (h8 : n ≤ 8) :
    Calls Tryd.prog 11 #[.int .i64 n] w fun e w' => e = .returned (.tuple #[.int .i64 (many n), .nilIface]) ∧ w = w' := by
  have HD := Lib.hid (show decide (0 ≤ n ∧ n ≤ 8) = true from by simp; omega)
  have hm : (2 * n) = ((2 * n.toNat : Nat) : Int) := by omega
  have HM := Lib.hid hm; clear hm
  go_enter Tryd.func11, Tryd.ntmps11
  go_wp2_with fail
  refine (within_any _ _ _ _).mono ?_
  rintro e w' ⟨rfl, rfl⟩
  rw [HD.out]
  go_wp2_with fail
  rw [HM.out]
  refine (ways_any (2 * n.toNat) 0 _ (by omega) (by omega) (by omega)).mono ?_
  rintro e w' ⟨rfl, rfl⟩
  go_wp2_with fail
  go_ret2
  exact ⟨rfl, rfl⟩
set_option maxHeartbeats 400000 in
theorem many_no (n : Int) (w : World) (h : ¬ (0 ≤ n ∧ n ≤ 8)) :
    Calls Tryd.prog 11 #[.int .i64 n] w fun e w' => e = .returned (.tuple #[.int .i64 0, .iface 37 (.int .i64 1)]) ∧ w = w' := by
  have HD := Lib.hid (show decide (0 ≤ n ∧ n ≤ 8) = false from by simpa using h)
  clear h
  go_enter Tryd.func11, Tryd.ntmps11
  go_wp2_with fail
  refine (within_any _ _ _ _).mono ?_
  rintro e w' ⟨rfl, rfl⟩
  rw [HD.out]
  go_wp2_with fail
  go_ret2
  exact ⟨rfl, rfl⟩

set_option maxHeartbeats 400000 in
theorem place_no (l : List UInt8) (w : World) (hl : l.length ≤ 9223372036854775807) (h : chk l ≠ 0) :
    Calls Tryd.prog 8 #[S l] w fun e w' => e = .returned (.tuple #[.int .i64 0, .iface 37 (.int .i64 (chk l))]) ∧ Below w.heap.size w w' := by
  have hc := check_any l w hl
  rw [err_ne h] at hc
  generalize chk l = k at *
  have HC := Lib.hid hc; clear hc h
  go_enter Tryd.func8, Tryd.ntmps8
  go_wp2_with fail
  refine HC.out.mono ?_
  rintro e w' ⟨rfl, hb⟩
  go_wp2_with fail
  go_ret2
  exact ⟨rfl, hb⟩
set_option maxHeartbeats 400000 in
theorem place_ok (l : List UInt8) (w : World) (h : chk l = 0) :
    Calls Tryd.prog 8 #[S l] w fun e w' => e = .returned (.tuple #[.int .i64 (placeGo l 0 0), .nilIface]) ∧ Below w.heap.size w w' := by
  have h16 : l.length ≤ 16 := by
    unfold chk at h
    split at h
    · simp at h
    · omega
  have hc := check_any l w (by omega)
  rw [h] at hc
  have HC := Lib.hid hc; clear hc h
  obtain ⟨T, hT0⟩ : ∃ T, placeGo l 0 0 = T := ⟨_, rfl⟩
  rw [hT0]
  have HT0 := Lib.hid hT0; clear hT0
  go_enter Tryd.func8, Tryd.ntmps8
  go_wp2_with fail
  refine HC.out.mono ?_
  rintro e w1 ⟨rfl, hb⟩
  rw [show errV 0 = .nilIface from rfl]
  have HB := Lib.hid hb; clear hb
  go_wp2_with fail
  go_loopg [5, 6, 15] l.length (fun f a o i wr => ∃ k : Nat, ∃ op at' : Int, k + f = l.length ∧ i = .int .i64 k ∧ o = .int .i64 op ∧ a = .int .i64 at' ∧ -(k : Int) ≤ op ∧ op ≤ k ∧ 0 ≤ at' ∧ at' ≤ 65536 * k ∧ w1 = wr ∧ placeGo (l.drop k) op at' = T)
  case atStart => exact ⟨0, 0, 0, by omega, rfl, rfl, rfl, by omega, by omega, by omega, by omega, rfl, HT0.out⟩
  case round =>
    obtain ⟨k, op, at', hkf, rfl, rfl, rfl, h0, h1, h2, h3, rfl, hT⟩ := hrel
    by_cases hlt : k < l.length
    · rw [drop_bu hlt] at hT
      unfold placeGo at hT
      obtain ⟨f, rfl⟩ : ∃ f, gk = f + 1 := ⟨gk - 1, by omega⟩
      have hln : (l.drop (k + 1)).length = l.length - 1 - k := by rw [List.length_drop]; omega
      rw [hln] at hT
      by_cases h41 : (bu l k).toNat = 41
      · rw [if_pos h41] at hT
        have HT := Lib.hid hT; clear hT hln
        have e1 : (((bu l k).toNat : Int) == 41) = true := by rw [beq_iff_eq]; omega
        have hm : (l.length : Int) - 1 - (k : Int) = ((l.length - 1 - k : Nat) : Int) := by omega
        have HM := Lib.hid hm
        have b1 := (W_nonneg (l.length - 1 - k) (op + 1)).1
        have b2 := W_small (m := l.length - 1 - k) (o := op + 1) (by omega)
        clear h41 hm
        go_wp2_with fail
        rw [HM.out]
        refine (ways_any (l.length - 1 - k) (op + 1) _ (by omega) (by omega) (by omega)).mono ?_
        rintro e w' ⟨rfl, rfl⟩
        generalize W (l.length - 1 - k) (op + 1) = ww at *
        go_wp2_with fail
        go_roundg f
        case measure => omega
        case rel => exact ⟨k + 1, op - 1, at' + ww, by omega, by simp, rfl, rfl, by omega, by omega, by omega, by omega, rfl, HT.out⟩
      · rw [if_neg h41] at hT
        have HT := Lib.hid hT; clear hT hln
        have e1 : (((bu l k).toNat : Int) == 41) = false := by rw [beq_eq_false_iff_ne]; omega
        clear h41
        go_wp2_with fail
        go_roundg f
        case measure => omega
        case rel => exact ⟨k + 1, op + 1, at', by omega, by simp, rfl, rfl, by omega, by omega, by omega, by omega, rfl, HT.out⟩
    · rw [List.drop_of_length_le (by omega)] at hT
      unfold placeGo at hT
      have HT := Lib.hid hT; clear hT
      go_wp2_with fail
      go_ret2
      exact ⟨by rw [← HT.out]; rfl, HB.out⟩

set_option maxHeartbeats 400000 in
theorem at_no1 (n p : Int) (w : World) (h : ¬ (0 ≤ n ∧ n ≤ 8)) :
    Calls Tryd.prog 12 #[.int .i64 n, .int .i64 p] w fun e w' => e = .returned (.tuple #[S [], .iface 37 (.int .i64 1)]) ∧ w = w' := by
  go_enter Tryd.func12, Tryd.ntmps12
  have H := Lib.hid h; clear h
  go_wp2_with fail
  refine (many_no _ _ H.out).mono ?_
  rintro e w' ⟨rfl, rfl⟩
  go_wp2_with fail
  go_ret2
  exact ⟨rfl, rfl⟩
set_option maxHeartbeats 400000 in
theorem at_no2 (n p : Int) (w : World) (h0 : 0 ≤ n) (h8 : n ≤ 8) (h : ¬ (0 ≤ p ∧ p ≤ many n - 1)) :
    Calls Tryd.prog 12 #[.int .i64 n, .int .i64 p] w fun e w' => e = .returned (.tuple #[S [], .iface 37 (.int .i64 1)]) ∧ w = w' := by
  have HD := Lib.hid (show decide (0 ≤ p ∧ p ≤ many n - 1) = false from by simpa using h)
  have b1 := (W_nonneg (2 * n.toNat) 0).1
  have b2 := W_small (m := 2 * n.toNat) (o := 0) (by omega)
  clear h
  go_enter Tryd.func12, Tryd.ntmps12
  go_wp2_with fail
  refine (many_ok n _ h0 h8).mono ?_
  rintro e w' ⟨rfl, rfl⟩
  change 0 ≤ many n at b1
  change many n ≤ 65536 at b2
  go_wp2_with fail
  refine (within_any _ _ _ _).mono ?_
  rintro e w' ⟨rfl, rfl⟩
  rw [HD.out]
  go_wp2_with fail
  go_ret2
  exact ⟨rfl, rfl⟩
set_option maxHeartbeats 400000 in
theorem at_ok (n p : Int) (w : World) (h0 : 0 ≤ n) (h8 : n ≤ 8) (h : 0 ≤ p ∧ p ≤ many n - 1) :
    Calls Tryd.prog 12 #[.int .i64 n, .int .i64 p] w fun e w' => e = .returned (.tuple #[S (at_ n p), .nilIface]) ∧ w = w' := by
  have HD := Lib.hid (show decide (0 ≤ p ∧ p ≤ many n - 1) = true from by simpa using h)
  obtain ⟨T, hT0⟩ : ∃ T, at_ n p = T := ⟨_, rfl⟩
  rw [hT0]
  have HT0 := Lib.hid hT0; clear hT0
  have b1 := (W_nonneg (2 * n.toNat) 0).1
  have b2 := W_small (m := 2 * n.toNat) (o := 0) (by omega)
  obtain ⟨hp0, hp1⟩ := h
  change 0 ≤ many n at b1
  change many n ≤ 65536 at b2
  go_enter Tryd.func12, Tryd.ntmps12
  go_wp2_with fail
  refine (many_ok n _ h0 h8).mono ?_
  rintro e w' ⟨rfl, rfl⟩
  go_wp2_with fail
  refine (within_any _ _ _ _).mono ?_
  rintro e w' ⟨rfl, rfl⟩
  rw [HD.out]
  go_wp2_with fail
  go_loopg [1, 8, 9, 10] (2 * n.toNat) (fun f pv s o i wr => ∃ op p' : Int, ∃ acc : List UInt8, f ≤ 16 ∧ i = .int .i64 ((f : Int) - 1) ∧ o = .int .i64 op ∧ pv = .int .i64 p' ∧ s = S acc ∧ (f : Int) - 16 ≤ op ∧ op ≤ 16 - (f : Int) ∧ acc.length + f ≤ 16 ∧ -65536 * (16 - (f : Int)) ≤ p' ∧ p' ≤ 65536 ∧ w = wr ∧ atGo f op p' acc = T)
  case atStart => exact ⟨0, p, [], by omega, by congr 1; omega, rfl, rfl, rfl, by omega, by omega, by simp; omega, by omega, by omega, rfl, HT0.out⟩
  case round =>
    obtain ⟨op, p', acc, hf, rfl, rfl, rfl, rfl, h1, h2, h3, h4, h5, rfl, hT⟩ := hrel
    cases gk with
    | zero =>
      have HT := Lib.hid hT; clear hT
      go_wp2_with fail
      go_ret2
      exact ⟨by rw [← HT.out]; rfl, rfl⟩
    | succ f =>
      rw [show (((f + 1 : Nat) : Int) - 1) = (f : Int) from by omega]
      unfold atGo at hT
      have c1 := (W_nonneg f (op + 1)).1
      have c2 := W_small (m := f) (o := op + 1) (by omega)
      by_cases hlt : p' < W f (op + 1)
      · rw [if_pos hlt] at hT
        have HT := Lib.hid hT; clear hT
        go_wp2_with fail
        refine (ways_any f (op + 1) _ (by omega) (by omega) (by omega)).mono ?_
        rintro e w' ⟨rfl, rfl⟩
        go_wp2_with fail
        go_roundg f
        case measure => omega
        case rel => exact ⟨op + 1, p', acc ++ [40], by omega, rfl, rfl, rfl, rfl, by omega, by omega, by simp; omega, by omega, by omega, rfl, HT.out⟩
      · rw [if_neg hlt] at hT
        have HT := Lib.hid hT; clear hT
        go_wp2_with fail
        refine (ways_any f (op + 1) _ (by omega) (by omega) (by omega)).mono ?_
        rintro e w' ⟨rfl, rfl⟩
        go_wp2_with fail
        go_roundg f
        case measure => omega
        case rel => exact ⟨op - 1, p' - W f (op + 1), acc ++ [41], by omega, rfl, rfl, rfl, rfl, by omega, by omega, by simp; omega, by omega, by omega, rfl, HT.out⟩

end Go.Proofs.YthhfkndhdjffgaaDoor
