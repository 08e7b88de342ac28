/- The walks over the laws of dyck: they return true. -/
import Derived.Test.YthhfkndhdjffgaaDyckW
import Derived.Test.YthhfkndhdjffgaaDyckP
namespace Go.Proofs.Ythhfkndhdjffgaa
open Go.RowKit DyckM
attribute [local go_sem] byte_at str_app

set_option maxRecDepth 100000 in
set_option maxHeartbeats 400000 in
theorem fact_any (w : World) :
    Calls Try.prog 6 #[] w fun e w' => e = .returned (.bool true) ∧ Below w.heap.size w w' := by
  go_enter Try.func6, Try.ntmps6
  go_wp2_with fail
  refine (many_ok 3 _ (by omega) (by omega)).mono ?_
  rintro e w1 ⟨rfl, rfl⟩
  rw [many_fact]
  go_wp2_with fail
  refine (at_ok 2 1 _ (by omega) (by omega) (by decide)).mono ?_
  rintro e w1 ⟨rfl, rfl⟩
  rw [at_fact]
  go_wp2_with fail
  refine (place_ok [40, 41, 40, 41] _ chk_fact).mono ?_
  rintro e w1 ⟨rfl, hb⟩
  rw [place_fact]
  go_wp2_with fail
  go_ret
  exact ⟨rfl, hb⟩

set_option maxRecDepth 100000 in
set_option maxHeartbeats 1000000 in
theorem dyckCatalan_walk (n : Int) (w : World) :
    Calls Try.prog 3 #[.int .i64 n] w fun e w' => e = .returned (.bool true) ∧ Below w.heap.size w w' := by
  by_cases hn : 0 ≤ n ∧ n ≤ 8
  · obtain ⟨N, rfl⟩ : ∃ N : Nat, n = N := ⟨n.toNat, by omega⟩
    have h8 : N ≤ 8 := by omega
    by_cases h0 : N = 0
    · subst h0
      go_enter Try.func3, Try.ntmps3
      go_wp2_with fail
      refine (fact_any _).mono ?_
      rintro e w1 ⟨rfl, hb1⟩
      go_wp2_with fail
      refine (many_ok 0 _ (by omega) (by omega)).mono ?_
      rintro e w1 ⟨rfl, rfl⟩
      rw [show many 0 = 1 from rfl]
      go_wp2_with fail
      go_ret
      exact ⟨rfl, hb1⟩
    · have HC := Lib.hid (catalan_ N h8 h0)
      have e0 : ((N : Int) == 0) = false := by rw [beq_eq_false_iff_ne]; omega
      clear h0
      go_enter Try.func3, Try.ntmps3
      go_wp2_with fail
      refine (fact_any _).mono ?_
      rintro e w1 ⟨rfl, hb1⟩
      have HB := Lib.hid hb1; clear hb1
      go_wp2_with fail
      refine (many_ok N _ (by omega) (by omega)).mono ?_
      rintro e w2 ⟨rfl, rfl⟩
      generalize hK : many (N : Int) = K at *
      have HK := Lib.hid hK; clear hK
      go_wp2_with fail
      go_loopg [6, 7] N (fun f s i wr => ∃ k : Nat, ∃ sum : Int, k + f = N ∧ i = .int .i64 k ∧ s = .int .i64 sum ∧ 0 ≤ sum ∧ sum ≤ 4000000 * k ∧ w1 = wr ∧ catSum f N sum = K)
      case atStart => exact ⟨0, 0, by omega, rfl, rfl, by omega, by omega, rfl, HC.out⟩
      case round =>
        obtain ⟨k, sum, hkf, rfl, rfl, h1, h2, rfl, hT⟩ := hrel
        by_cases hlt : k < N
        · obtain ⟨f, rfl⟩ : ∃ f, gk = f + 1 := ⟨gk - 1, by omega⟩
          unfold catSum at hT
          rw [show N - (f + 1) = k from by omega] at hT
          obtain ⟨a1, a2⟩ := many_le k (by omega)
          obtain ⟨b1, b2⟩ := many_le f (by omega)
          have HD1 := Lib.hid (show decide (0 ≤ many (k : Int) ∧ many (k : Int) ≤ 2000) = true from by simp; omega)
          have HD2 := Lib.hid (show decide (0 ≤ many (f : Int) ∧ many (f : Int) ≤ 2000) = true from by simp; omega)
          have hm1 : 0 ≤ many (k : Int) * many (f : Int) := Int.mul_nonneg (by omega) (by omega)
          have hm2 : many (k : Int) * many (f : Int) ≤ 4000000 := by
            have := Int.mul_le_mul a2 b2 (by omega) (by omega : (0:Int) ≤ 2000); omega
          have hf : (N : Int) - 1 - (k : Int) = (f : Int) := by omega
          have HF := Lib.hid hf
          have HT := Lib.hid hT
          clear a1 b1 hf hT
          go_wp2_with fail
          refine (many_ok k _ (by omega) (by omega)).mono ?_
          rintro e w2 ⟨rfl, rfl⟩
          go_wp2_with fail
          rw [HF.out]
          refine (many_ok f _ (by omega) (by omega)).mono ?_
          rintro e w2 ⟨rfl, rfl⟩
          go_wp2_with fail
          refine (in_any _ _ _ _).mono ?_
          rintro e w2 ⟨rfl, rfl⟩
          rw [HD1.out]
          go_wp2_with fail
          refine (in_any _ _ _ _).mono ?_
          rintro e w2 ⟨rfl, rfl⟩
          rw [HD2.out]
          go_wp2_with fail
          go_roundg f
          case measure => omega
          case rel => exact ⟨k + 1, sum + many (k : Int) * many (f : Int), by omega, by simp, rfl, by omega, by omega, rfl, HT.out⟩
        · obtain rfl : gk = 0 := by omega
          have hs : sum = K := hT
          subst hs
          go_wp2_with fail
          go_ret
          exact ⟨ret_bool (by simp), HB.out⟩
  · go_enter Try.func3, Try.ntmps3
    have HN := Lib.hid hn; clear hn
    go_wp2_with fail
    refine (fact_any _).mono ?_
    rintro e w1 ⟨rfl, hb1⟩
    go_wp2_with fail
    refine (many_no _ _ HN.out).mono ?_
    rintro e w2 ⟨rfl, rfl⟩
    go_wp2_with fail
    go_ret
    exact ⟨ret_bool (by simp), hb1⟩

/-- The first part of DyckPlace's walk, both ends of 'At'. -/
def AtRes (n p : Int) (w : World) (e : Ending) (w' : World) : Prop :=
  w = w' ∧ ((0 ≤ n ∧ n ≤ 8 ∧ 0 ≤ p ∧ p ≤ many n - 1 ∧ e = .returned (.tuple #[S (at_ n p), .nilIface])) ∨ e = .returned (.tuple #[S [], .iface 35 (.int .i64 1)]))
theorem at_any (n p : Int) (w : World) : Calls Try.prog 9 #[.int .i64 n, .int .i64 p] w (AtRes n p w) := by
  by_cases hn : 0 ≤ n ∧ n ≤ 8
  · by_cases hp : 0 ≤ p ∧ p ≤ many n - 1
    · exact (at_ok n p w hn.1 hn.2 hp).mono fun e w' ⟨h1, h2⟩ => ⟨h2, .inl ⟨hn.1, hn.2, hp.1, hp.2, h1⟩⟩
    · exact (at_no2 n p w hn.1 hn.2 hp).mono fun e w' ⟨h1, h2⟩ => ⟨h2, .inr h1⟩
  · exact (at_no1 n p w hn).mono fun e w' ⟨h1, h2⟩ => ⟨h2, .inr h1⟩

set_option maxRecDepth 100000 in
set_option maxHeartbeats 2000000 in
theorem dyckPlace_walk (n p : Int) (l : List UInt8) (w : World) (hl : l.length ≤ 9223372036854775807) :
    Calls Try.prog 4 #[.int .i64 n, .int .i64 p, S l] w fun e w' => e = .returned (.bool true) ∧ Below w.heap.size w w' := by
  go_enter Try.func4, Try.ntmps4
  go_wp2_with fail
  refine (fact_any _).mono ?_
  rintro e w1 ⟨rfl, hb1⟩
  have HB1 := Lib.hid hb1; clear hb1
  go_wp2_with fail
  refine (at_any n p w1).mono ?_
  rintro e w2 ⟨rfl, ⟨h0, h8, hp0, hp1, rfl⟩ | rfl⟩
  focus
    obtain ⟨q1, q2, q3⟩ := at_ok_spec h0 h8 hp0 hp1
    have HR := Lib.hid (fun h => at_rises (n := n) (p := p) hp0 h)
    have hmb : many n ≤ 65536 := W_small (m := 2 * n.toNat) (o := 0) (by omega)
    have HP := Lib.hid q3
    have HK := Lib.hid q2
    have hlen : (at_ n p).length ≤ 9223372036854775807 := by omega
    generalize hT : at_ n p = T at *
    have e1 : ((T.length : Int) != 2 * n) = false := by rw [q1]; simp
    have e2 : ((T.length : Int) == 2 * n) = true := by rw [q1]; simp
    have HT := Lib.hid hT
    clear q1 q2 q3 hT
    go_wp2_with fail
    refine (place_ok T _ HK.out).mono ?_
    rintro e w2 ⟨rfl, hb2⟩
    have HB2 := Lib.hid (HB1.out.trans (hb2.mono HB1.out.size)); clear hb2 HB1
    rw [HP.out]
    go_wp2_with fail
    refine (at_any n (p + 1) w2).mono ?_
    rintro e w3 ⟨rfl, ⟨h0', h8', hp0', hp1', rfl⟩ | rfl⟩
    focus
      have hb := HR.out hp1'
      have hlen2 : (at_ n (p + 1)).length ≤ 9223372036854775807 := by have := (at_ok_spec h0' h8' hp0' hp1').1; omega
      generalize at_ n (p + 1) = U at *
      have HBe := Lib.hid hb
      clear hb
      go_wp2_with fail
      refine (before_any T U _ hlen2).mono ?_
      rintro e w3 ⟨rfl, hb3⟩
      rw [HBe.out]
      have HB1 := Lib.hid (HB2.out.trans (hb3.mono HB2.out.size)); clear hb3 HB2
      go_wp2_with fail
    rotate_left
    focus
      have HB1 := HB2
      clear HB2
      go_wp2_with fail
  rotate_left 2
  focus
    go_wp2_with fail
  all_goals
    by_cases hk : chk l = 0
    · obtain ⟨m, z1, z2, z3, z4, z5⟩ := back hk
      refine (place_ok l _ hk).mono ?_
      rintro e w4 ⟨rfl, hb4⟩
      have HB4 := Lib.hid (HB1.out.trans (hb4.mono HB1.out.size)); clear hb4
      have hq : (l.length : Int) / 2 = (m : Int) := by omega
      have HQ := Lib.hid hq
      have H5 := Lib.hid z5
      clear hq z5 z1
      go_wp2_with fail
      first | rw [HQ.out] | skip
      refine (at_ok m (placeGo l 0 0) _ (by omega) (by omega) ⟨z3, z4⟩).mono ?_
      rintro e w5 ⟨rfl, rfl⟩
      rw [H5.out]
      go_wp2_with fail
      go_ret
      exact ⟨ret_bool (by simp), HB4.out⟩
    · refine (place_no l _ hl hk).mono ?_
      rintro e w4 ⟨rfl, hb4⟩
      have HB4 := Lib.hid (HB1.out.trans (hb4.mono HB1.out.size)); clear hb4 hk
      generalize chk l = kk at *
      go_wp2_with fail
      go_ret
      exact ⟨ret_bool (by simp), HB4.out⟩

theorem chk_long {l : List UInt8} (h : 16 < l.length) : chk l = 4 := by unfold chk; rw [if_pos h]

set_option maxRecDepth 100000 in
set_option maxHeartbeats 2000000 in
theorem dyckJoin_walk (a b : List UInt8) (w : World) (hla : a.length ≤ 9223372036854775807) (hlb : b.length ≤ 9223372036854775807) :
    Calls Try.prog 5 #[S a, S b] w fun e w' => e = .returned (.bool true) ∧ Below w.heap.size w w' := by
  go_enter Try.func5, Try.ntmps5
  go_wp2_with fail
  refine (fact_any _).mono ?_
  rintro e w1 ⟨rfl, hb1⟩
  have HB1 := Lib.hid hb1; clear hb1
  go_wp2_with fail
  refine (check_any a _ hla).mono ?_
  rintro e w2 ⟨rfl, hb2⟩
  have HB2 := Lib.hid (HB1.out.trans (hb2.mono HB1.out.size)); clear hb2 HB1
  by_cases hka : chk a = 0
  · rw [hka, show errV 0 = .nilIface from rfl]
    obtain ⟨h16a, _⟩ := chk_zero hka
    have Hka := Lib.hid hka; clear hka
    go_wp2_with fail
    refine (check_any b _ hlb).mono ?_
    rintro e w3 ⟨rfl, hb3⟩
    have HB3 := Lib.hid (HB2.out.trans (hb3.mono HB2.out.size)); clear hb3 HB2
    by_cases hkb : chk b = 0
    · rw [hkb, show errV 0 = .nilIface from rfl]
      obtain ⟨h16b, _⟩ := chk_zero hkb
      have Hkb := Lib.hid hkb; clear hkb
      have htl := turned_len a []
      go_wp2_with fail
      go_loopg [6, 7] a.length (fun f s i wr => ∃ k : Nat, ∃ acc : List UInt8, k + f = a.length ∧ i = .int .i64 k ∧ s = S acc ∧ acc.length ≤ k ∧ w3 = wr ∧ turned (a.drop k) acc = turned a [])
      case atStart => exact ⟨0, [], by omega, rfl, rfl, by simp, rfl, rfl⟩
      case round =>
        obtain ⟨k, acc, hkf, rfl, rfl, hac, rfl, hT⟩ := hrel
        by_cases hlt : k < a.length
        · rw [drop_bu hlt] at hT
          obtain ⟨f, rfl⟩ : ∃ f, gk = f + 1 := ⟨gk - 1, by omega⟩
          by_cases h40 : (bu a k).toNat = 40
          · rw [turned_yes h40] at hT
            have HT := Lib.hid hT; clear hT
            have e1 : (((bu a k).toNat : Int) == 40) = true := by rw [beq_iff_eq]; omega
            clear h40
            go_wp2_with fail
            go_roundg f
            case measure => omega
            case rel => exact ⟨k + 1, 41 :: acc, by omega, by simp, rfl, by simp; omega, rfl, HT.out⟩
          · rw [turned_no h40] at hT
            have HT := Lib.hid hT; clear hT
            have e1 : (((bu a k).toNat : Int) == 40) = false := by rw [beq_eq_false_iff_ne]; omega
            clear h40
            go_wp2_with fail
            go_roundg f
            case measure => omega
            case rel => exact ⟨k + 1, 40 :: acc, by omega, by simp, rfl, by simp; omega, rfl, HT.out⟩
        · rw [List.drop_of_length_le (by omega)] at hT
          have hacc : acc = turned a [] := hT
          have Hac := Lib.hid hacc; clear hT hacc
          have HZ := Lib.hid (turned_ok Hka.out)
          go_wp2_with fail
          refine (check_any (a ++ b) _ (by simp; omega)).mono ?_
          rintro e w4 ⟨rfl, hb4⟩
          have HB4 := Lib.hid (HB3.out.trans (hb4.mono HB3.out.size)); clear hb4 HB3
          have HX : Hid (errV (chk (a ++ b)) = .nilIface ∧ a.length + b.length ≤ 16 ∨ errV (chk (a ++ b)) = .iface 35 (.int .i64 4) ∧ 16 < a.length + b.length) := by
            by_cases h : a.length + b.length ≤ 16
            · exact .inl ⟨by rw [join_ok Hka.out Hkb.out h]; rfl, h⟩
            · exact .inr ⟨by rw [chk_long (by simp; omega)]; rfl, by omega⟩
          have HY : Hid (errV (chk (40 :: (a ++ [41]))) = .nilIface ∧ a.length ≤ 14 ∨ errV (chk (40 :: (a ++ [41]))) = .iface 35 (.int .i64 4) ∧ 14 < a.length) := by
            by_cases h : a.length ≤ 14
            · exact .inl ⟨by rw [enclosed_ok Hka.out h]; rfl, h⟩
            · exact .inr ⟨by rw [chk_long (by simp; omega)]; rfl, by omega⟩
          rcases HX.out with ⟨hx, hx2⟩ | ⟨hx, hx2⟩
          all_goals
            rw [hx]
            clear hx HX
            go_wp2_with fail
            with_reducible refine (check_any (40 :: (a ++ [41])) _ (by simp; omega)).mono ?_
            rintro e w5 ⟨rfl, hb5⟩
            have HB5 := Lib.hid (HB4.out.trans (hb5.mono HB4.out.size)); clear hb5
            rcases HY.out with ⟨hy, hy2⟩ | ⟨hy, hy2⟩
            all_goals
              rw [hy]
              clear hy
              go_wp2_with fail
              refine (check_any acc _ (by omega)).mono ?_
              rintro e w6 ⟨rfl, hb6⟩
              have HB6 := Lib.hid (HB5.out.trans (hb6.mono HB5.out.size)); clear hb6
              rw [Hac.out, HZ.out, show errV 0 = .nilIface from rfl]
              go_wp2_with fail
              go_ret
              exact ⟨ret_bool (by simp), HB6.out⟩
    · rw [err_ne hkb]
      generalize chk b = kk at *
      clear hkb
      go_wp2_with fail
      go_ret
      exact ⟨rfl, HB3.out⟩
  · rw [err_ne hka]
    generalize chk a = kk at *
    clear hka
    go_wp2_with fail
    go_ret
    exact ⟨rfl, HB2.out⟩
end Go.Proofs.Ythhfkndhdjffgaa
