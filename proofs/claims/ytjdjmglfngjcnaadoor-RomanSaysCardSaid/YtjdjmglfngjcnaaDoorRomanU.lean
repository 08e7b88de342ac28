/- The walks over the document's numerals, and over the law RomanSays. Conditions of the last: roman.parts and errors.errorType read as the program's text lays them. -/
import Derived.Test.YtjdjmglfngjcnaaDoorRomanL
import Derived.IntWalk
namespace Go.Proofs.YtjdjmglfngjcnaaDoor
open Go.RowKit RomanM
attribute [local go_sem] byte_at str_app
attribute [local irreducible] RomanM.wr RomanM.rd RomanM.rOut RomanM.wOut

def lt0 : Nat → List UInt8 → List UInt8
  | 0, _ => []
  | n + 1, a => a ++ lt0 n a
def lt (n : Int) (a b c : List UInt8) : List UInt8 :=
  if n = 9 then a ++ c else if 5 ≤ n then b ++ lt0 (n - 5).toNat a else if n = 4 then a ++ b else lt0 n.toNat a
def rom (n : Int) : List UInt8 := lt (n / 1000) [77] [] [] ++ lt (n / 100 % 10) [67] [68] [77] ++ lt (n / 10 % 10) [88] [76] [67] ++ lt (n % 10) [73] [86] [88]
theorem lt0_len : ∀ (n : Nat) (a : List UInt8), a.length ≤ 1 → (lt0 n a).length ≤ n := by
  intro n
  induction n with
  | zero => intro a h; simp [lt0]
  | succ n ih => intro a h; have := ih a h; simp [lt0]; omega
theorem lt_len {n : Int} {a b c : List UInt8} (h0 : 0 ≤ n) (h9 : n ≤ 9) (ha : a.length ≤ 1) (hb : b.length ≤ 1) (hc : c.length ≤ 1) : (lt n a b c).length ≤ 6 := by
  unfold lt
  split
  · simp; omega
  · split
    · have := lt0_len (n - 5).toNat a ha; simp; omega
    · split
      · simp; omega
      · have := lt0_len n.toNat a ha; omega
theorem rom_all2 : ∀ a : Fin 64, ∀ b : Fin 64, a.val * 64 + b.val < 4000 → rom ((a.val * 64 + b.val : Nat) : Int) = wr ((a.val * 64 + b.val : Nat) : Int) := by decide +kernel
theorem rom_eq {n : Int} (h : 0 ≤ n ∧ n ≤ 3999) : rom n = wr n := by
  obtain ⟨m, rfl⟩ : ∃ m : Nat, n = m := ⟨n.toNat, by omega⟩
  have := rom_all2 ⟨m / 64, by omega⟩ ⟨m % 64, by omega⟩
  rw [show m / 64 * 64 + m % 64 = m from by omega] at this
  exact this (by omega)
set_option maxHeartbeats 400000 in
set_option linter.unusedVariables false in
theorem letters_small : ∀ (n : Nat) (a b c : List UInt8) (w : World), n ≤ 3 → a.length ≤ 1 →
    Calls Tryd.prog 20 #[.int .i64 (n : Int), S a, S b, S c] w fun e w' => e = .returned (S (lt0 n a)) ∧ w = w' := by
  intro n
  induction n with
  | zero =>
    intro a b c w h ha
    go_enter Tryd.func20, Tryd.ntmps20
    go_wp2_with fail
    go_ret
    exact ⟨rfl, rfl⟩
  | succ n ih =>
    intro a b c w h ha
    have IH := Lib.hid ih; clear ih
    have hll := lt0_len n a ha
    have e9 : (((n : Int) + 1) == 9) = false := by rw [beq_eq_false_iff_ne]; omega
    have e5 : decide ((5 : Int) ≤ (n : Int) + 1) = false := by simp; omega
    have e4 : (((n : Int) + 1) == 4) = false := by rw [beq_eq_false_iff_ne]; omega
    have e0 : (((n : Int) + 1) == 0) = false := by rw [beq_eq_false_iff_ne]; omega
    rw [show ((n + 1 : Nat) : Int) = (n : Int) + 1 from rfl]
    go_enter Tryd.func20, Tryd.ntmps20
    go_wp2_with fail
    have e : (n : Int) + 1 - 1 = n := by omega
    try rw [e]
    refine (IH.out a b c w (by omega) ha).mono ?_
    rintro e w' ⟨rfl, rfl⟩
    go_wp2_with fail
    go_ret
    exact ⟨rfl, rfl⟩
set_option maxHeartbeats 400000 in
set_option linter.unusedVariables false in
theorem letters_any (n : Int) (a b c : List UInt8) (w : World) (h0 : 0 ≤ n) (h9 : n ≤ 9) (ha : a.length ≤ 1) (hb : b.length ≤ 1) (hc : c.length ≤ 1) :
    Calls Tryd.prog 20 #[.int .i64 n, S a, S b, S c] w fun e w' => e = .returned (S (lt n a b c)) ∧ w = w' := by
  by_cases k9 : n = 9
  · subst k9
    go_enter Tryd.func20, Tryd.ntmps20
    go_wp2_with fail
    go_ret
    exact ⟨rfl, rfl⟩
  · by_cases k5 : 5 ≤ n
    · have HL := Lib.hid (show lt n a b c = b ++ lt0 (n - 5).toNat a by unfold lt; rw [if_neg k9, if_pos k5])
      have HC := Lib.hid (show n - 5 = ((n - 5).toNat : Int) by omega)
      have hll := lt0_len (n - 5).toNat a ha
      have e9 : (n == 9) = false := by rw [beq_eq_false_iff_ne]; exact k9
      go_enter Tryd.func20, Tryd.ntmps20
      go_wp2_with fail
      rw [HC.out]
      refine (letters_small (n - 5).toNat a b c w (by omega) ha).mono ?_
      rintro e w' ⟨rfl, rfl⟩
      go_wp2_with fail
      go_ret
      exact ⟨by rw [HL.out]; rfl, rfl⟩
    · by_cases k4 : n = 4
      · subst k4
        go_enter Tryd.func20, Tryd.ntmps20
        go_wp2_with fail
        go_ret
        exact ⟨rfl, rfl⟩
      · obtain ⟨m, rfl⟩ : ∃ m : Nat, n = m := ⟨n.toNat, by omega⟩
        have HL := Lib.hid (show lt (m : Int) a b c = lt0 m a by unfold lt; rw [if_neg k9, if_neg k5, if_neg k4]; simp)
        refine (letters_small m a b c w (by omega) ha).mono ?_
        rintro e w' ⟨rfl, rfl⟩
        exact ⟨by rw [HL.out], rfl⟩
set_option maxHeartbeats 400000 in
theorem rroman_any (n : Int) (w : World) (h0 : 0 ≤ n) (h9 : n ≤ 3999) :
    Calls Tryd.prog 11 #[.int .i64 n] w fun e w' => e = .returned (S (wr n)) ∧ w = w' := by
  have HR := Lib.hid ((rom_eq ⟨h0, h9⟩).symm)
  have l1 := lt_len (n := n / 1000) (a := [77]) (b := []) (c := []) (by omega) (by omega) (by decide) (by decide) (by decide)
  have l2 := lt_len (n := n / 100 % 10) (a := [67]) (b := [68]) (c := [77]) (by omega) (by omega) (by decide) (by decide) (by decide)
  have l3 := lt_len (n := n / 10 % 10) (a := [88]) (b := [76]) (c := [67]) (by omega) (by omega) (by decide) (by decide) (by decide)
  have l4 := lt_len (n := n % 10) (a := [73]) (b := [86]) (c := [88]) (by omega) (by omega) (by decide) (by decide) (by decide)
  go_enter Tryd.func11, Tryd.ntmps11
  go_wp2_with fail
  refine (letters_any _ [77] [] [] _ (by omega) (by omega) (by decide) (by decide) (by decide)).mono ?_
  rintro e w' ⟨rfl, rfl⟩
  go_wp2_with fail
  refine (letters_any _ [67] [68] [77] _ (by omega) (by omega) (by decide) (by decide) (by decide)).mono ?_
  rintro e w' ⟨rfl, rfl⟩
  go_wp2_with fail
  refine (letters_any _ [88] [76] [67] _ (by omega) (by omega) (by decide) (by decide) (by decide)).mono ?_
  rintro e w' ⟨rfl, rfl⟩
  go_wp2_with fail
  refine (letters_any _ [73] [86] [88] _ (by omega) (by omega) (by decide) (by decide) (by decide)).mono ?_
  rintro e w' ⟨rfl, rfl⟩
  go_wp2_with fail
  go_ret
  have e : rom n = lt (n / 1000) [77] [] [] ++ (lt (n / 100 % 10) [67] [68] [77] ++ (lt (n / 10 % 10) [88] [76] [67] ++ lt (n % 10) [73] [86] [88])) := by unfold rom; simp only [List.append_assoc]
  exact ⟨by rw [HR.out, e]; rfl, rfl⟩
theorem rd_of {l : List UInt8} {n : Int} (h : 1 ≤ n ∧ n ≤ 3999) (e : RomanM.wr n = l) : rd l = n := by rw [← e]; exact (back_ h).1
set_option maxRecDepth 100000 in
set_option maxHeartbeats 400000 in
theorem unroman_any (l : List UInt8) (w : World) :
    Calls Tryd.prog 13 #[S l] w fun e w' => e = .returned (.int .i64 (rd l)) ∧ w = w' := by
  obtain ⟨D, hD⟩ : ∃ D, rd l = D := ⟨_, rfl⟩
  have HD := Lib.hid hD
  rw [hD]; clear hD
  go_enter Tryd.func13, Tryd.ntmps13
  go_wp2_with fail
  go_loopg [3] 3999 (fun f nv wr => ∃ n : Nat, n + f = 4000 ∧ 1 ≤ n ∧ nv = .int .i64 n ∧ w = wr ∧ ∀ j : Nat, 1 ≤ j → j < n → RomanM.wr (j : Int) ≠ l)
  case atStart => exact ⟨1, by omega, by omega, rfl, rfl, fun j h1 h2 => absurd h2 (by omega)⟩
  case round =>
    obtain ⟨n, hnf, hn1, rfl, rfl, hall⟩ := hrel
    have HA := Lib.hid hall; clear hall
    by_cases hlt : n < 4000
    · obtain ⟨f, rfl⟩ : ∃ f, gk = f + 1 := ⟨gk - 1, by omega⟩
      have HW := Lib.hid (rroman_any (n : Int) w (by omega) (by omega))
      by_cases he : RomanM.wr (n : Int) = l
      · have HZ := Lib.hid ((rd_of ⟨by omega, by omega⟩ he).symm.trans HD.out)
        rw [he] at HW
        clear he
        go_wp2_with fail
        refine HW.out.mono ?_
        rintro e w' ⟨rfl, rfl⟩
        go_wp2_with fail
        go_ret
        exact ⟨ret_int HZ.out, rfl⟩
      · have HX : Hid (∀ j : Nat, 1 ≤ j → j < n + 1 → RomanM.wr (j : Int) ≠ l) := by
          intro j h1 h2
          by_cases hj : j = n
          · subst hj; exact he
          · exact HA.out j h1 (by omega)
        have hne : (RomanM.wr (n : Int) == l) = false := by rw [beq_eq_false_iff_ne]; exact he
        clear he
        generalize RomanM.wr (n : Int) = W at *
        go_wp2_with fail
        refine HW.out.mono ?_
        rintro e w' ⟨rfl, rfl⟩
        go_wp2_with fail
        go_roundg f
        case measure => omega
        case rel => exact ⟨n + 1, by omega, by omega, by simp, rfl, HX.out⟩
    · obtain rfl : n = 4000 := by omega
      have HZ : Hid (0 = D) := by
        show 0 = D
        rw [← HD.out]
        by_cases h : rd l = 0
        · exact h.symm
        · obtain ⟨⟨q1, q2⟩, q3⟩ := rd_spec h
          have := HA.out (rd l).toNat (by omega) (by omega)
          rw [show (((rd l).toNat : Nat) : Int) = rd l by omega] at this
          exact absurd q3 this
      clear HA
      go_wp2_with fail
      go_ret
      exact ⟨ret_int HZ.out, rfl⟩
set_option maxHeartbeats 400000 in
theorem in_any (n lo hi : Int) (w : World) :
    Calls Tryd.prog 10 #[.int .i64 n, .int .i64 lo, .int .i64 hi] w fun e w' => e = .returned (.bool (decide (lo ≤ n ∧ n ≤ hi))) ∧ w = w' := by
  by_cases h1 : lo ≤ n
  · by_cases h2 : n ≤ hi
    all_goals
      go_enter Tryd.func10, Tryd.ntmps10
      go_wp2
      go_ret
      exact ⟨by simp [h1, h2], rfl⟩
  · go_enter Tryd.func10, Tryd.ntmps10
    go_wp2
    go_ret
    exact ⟨ret_bool (by simp [show ¬ lo ≤ n from by omega]), rfl⟩
set_option maxRecDepth 100000 in
set_option maxHeartbeats 2000000 in
theorem romanSays_walk (n : Int) (l : List UInt8) (w : World) (hl : l.length ≤ 9223372036854775807) (hg : HG w) (hp : PG w) :
    Calls Tryd.prog 5 #[.int .i64 n, S l] w fun e w' => e = .returned (.bool true) ∧ Below w.heap.size w w' := by
  have HPG := Lib.hid hp; clear hp
  have HGH := Lib.hid hg; clear hg
  go_enter Tryd.func5, Tryd.ntmps5
  go_wp2_with fail
  refine (in_any _ _ _ _).mono ?_
  rintro e w1 ⟨rfl, rfl⟩
  by_cases hn : 1 ≤ n ∧ n ≤ 3999
  focus
    rw [decide_eq_true hn]
    obtain ⟨n1, n2⟩ := hn
    have HW := Lib.hid (write_ok n w ⟨n1, n2⟩ HPG.out)
    have HR := Lib.hid (rroman_any n w (by omega) n2)
    obtain ⟨W, hW⟩ : ∃ W, RomanM.wr n = W := ⟨_, rfl⟩
    rw [hW] at HW HR
    clear hW
    go_wp2_with fail
    refine HR.out.mono ?_
    rintro e w1 ⟨rfl, rfl⟩
    go_wp2_with fail
    refine HW.out.mono ?_
    rintro e w2 ⟨rfl, hb2⟩
    have HB2 := Lib.hid hb2; clear hb2 HW HR
    go_wp2_with fail
    refine (error_any 0 0 _ (HGH.out.below HB2.out (Nat.le_refl _))).mono ?_
    rintro e w3 ⟨rfl, hb3⟩
    have HB := Lib.hid (HB2.out.trans (hb3.mono HB2.out.size)); clear hb3
    go_upto_region 10 with fail
  rotate_left
  focus
    rw [decide_eq_false hn]
    have HW := Lib.hid (write_no n w hn)
    clear hn
    go_wp2_with fail
    refine HW.out.mono ?_
    rintro e w2 ⟨rfl, rfl⟩
    go_wp2_with fail
    refine (error_any 1 1 _ HGH.out).mono ?_
    rintro e w3 ⟨rfl, hb3⟩
    have HB := Lib.hid hb3; clear hb3
    go_upto_region 10 with fail
  all_goals
    by_cases h24 : 24 < l.length
    · go_wp2_with fail
      refine (read_long l _ h24 hl).mono ?_
      rintro e w4 ⟨rfl, hb4⟩
      have HB4 := Lib.hid (HB.out.trans (hb4.mono HB.out.size)); clear hb4
      go_wp2_with fail
      refine (error_any 4 4 _ (HGH.out.below HB4.out (Nat.le_refl _))).mono ?_
      rintro e w5 ⟨rfl, hb5⟩
      have HB5 := Lib.hid (HB4.out.trans (hb5.mono HB4.out.size)); clear hb5
      go_wp2_with fail
      go_ret
      exact ⟨ret_bool (by simp), HB5.out⟩
    · have hd : decide ((24 : Int) < (l.length : Int)) = false := by simp; omega
      have HU := Lib.hid (unroman_any l)
      have HRd := Lib.hid (read_short l · (by omega) ·)
      generalize rd l = D at *
      by_cases hD : D = 0
      · subst hD
        go_wp2_with fail
        refine (HU.out _).mono ?_
        rintro e w4 ⟨rfl, rfl⟩
        go_wp2_with fail
        refine (HRd.out _ (HPG.out.below HB.out (Nat.le_refl _))).mono ?_
        rintro e w4 ⟨⟨h0, _⟩ | ⟨_, rfl⟩, hb4⟩
        · exact absurd rfl h0
        have HB4 := Lib.hid (HB.out.trans (hb4.mono HB.out.size)); clear hb4
        go_wp2_with fail
        refine (error_any 2 2 _ (HGH.out.below HB4.out (Nat.le_refl _))).mono ?_
        rintro e w5 ⟨rfl, hb5⟩
        have HB5 := Lib.hid (HB4.out.trans (hb5.mono HB4.out.size)); clear hb5
        go_wp2_with fail
        go_ret
        exact ⟨ret_bool (by simp), HB5.out⟩
      · have hne : (D == 0) = false := by rw [beq_eq_false_iff_ne]; exact hD
        have HDn := Lib.hid hD
        clear hD
        go_wp2_with fail
        refine (HU.out _).mono ?_
        rintro e w4 ⟨rfl, rfl⟩
        go_wp2_with fail
        refine (HRd.out _ (HPG.out.below HB.out (Nat.le_refl _))).mono ?_
        rintro e w4 ⟨⟨_, rfl⟩ | ⟨h0, _⟩, hb4⟩
        rotate_left
        · exact absurd h0 HDn.out
        have HB4 := Lib.hid (HB.out.trans (hb4.mono HB.out.size)); clear hb4
        go_wp2_with fail
        refine (error_any 0 0 _ (HGH.out.below HB4.out (Nat.le_refl _))).mono ?_
        rintro e w5 ⟨rfl, hb5⟩
        have HB5 := Lib.hid (HB4.out.trans (hb5.mono HB4.out.size)); clear hb5
        go_wp2_with fail
        go_ret
        exact ⟨ret_bool (by simp), HB5.out⟩
end Go.Proofs.YtjdjmglfngjcnaaDoor
