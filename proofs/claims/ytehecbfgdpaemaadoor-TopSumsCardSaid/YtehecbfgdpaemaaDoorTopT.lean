/- The walk over the law TopSums. Conditions: the variables yard.kinds and roman.parts read as the program's text lays them. -/
import Derived.Test.YtehecbfgdpaemaaDoorTopW
import Derived.Test.YtehecbfgdpaemaaDoorYardE
namespace Go.Proofs.YtehecbfgdpaemaaDoor.DyckM
open Go.Proofs.YtehecbfgdpaemaaDoor
def chkGo : List UInt8 → Int → Int
  | [], o => if o = 0 then 0 else 7
  | c :: r, o => if c.toNat = 40 then chkGo r (o + 1) else if c.toNat = 41 then (if o - 1 < 0 then 7 else chkGo r (o - 1)) else 2
def chk (l : List UInt8) : Int := if 16 < l.length then 4 else chkGo l 0
end Go.Proofs.YtehecbfgdpaemaaDoor.DyckM
namespace Go.Proofs.YtehecbfgdpaemaaDoor
open Go.RowKit YardM IntWalk DyckM
attribute [local go_sem] byte_at str_app
attribute [local irreducible] RomanM.wr RomanM.rd RomanM.rOut RomanM.wOut
set_option maxHeartbeats 400000 in
theorem check_any (l : List UInt8) (w : World) (hl : l.length ≤ 9223372036854775807) :
    Calls Tryd.prog 15 #[S l] w fun e w' => e = .returned (errV (chk l)) ∧ Below w.heap.size w w' := by
  by_cases h16 : 16 < l.length
  · have HC := Lib.hid (show chk l = 4 by unfold chk; rw [if_pos h16])
    go_enter Tryd.func15, Tryd.ntmps15
    go_wp2_with fail
    refine (long1_yes 16 l _ _ _ ?_ (by omega)).mono ?_
    · simp [World.cell?_alloc_new]
    rintro e w' ⟨rfl, rfl⟩
    go_wp2_with fail
    go_ret
    exact ⟨by rw [HC.out]; rfl, (Below.refl _ _).alloc (Nat.le_refl _) _⟩
  · have HC := Lib.hid (show chk l = chkGo l 0 by unfold chk; rw [if_neg h16])
    go_enter Tryd.func15, Tryd.ntmps15
    go_wp2_with fail
    refine (long1_no 16 l _ _ _ ?_ (by omega)).mono ?_
    · simp [World.cell?_alloc_new]
    rintro e w' ⟨rfl, rfl⟩
    have HB := Lib.hid ((Below.refl w.heap.size w).alloc (Nat.le_refl _) (.cells #[S l] 9))
    go_wp2_with fail
    generalize w.alloc (.cells #[S l] 9) = w1 at *
    go_loopg [4, 14] l.length (fun f o i wr => ∃ k : Nat, ∃ op : Int, k + f = l.length ∧ i = .int .i64 k ∧ o = .int .i64 op ∧ 0 ≤ op ∧ op ≤ k ∧ w1 = wr ∧ chkGo (l.drop k) op = chk l)
    case atStart => exact ⟨0, 0, by omega, rfl, rfl, by omega, by omega, rfl, HC.out.symm⟩
    case round =>
      obtain ⟨k, op, hkf, rfl, rfl, h0, h1, rfl, hT⟩ := hrel
      by_cases hlt : k < l.length
      · rw [drop_bu hlt] at hT
        unfold chkGo at hT
        obtain ⟨f, rfl⟩ : ∃ f, gk = f + 1 := ⟨gk - 1, by omega⟩
        by_cases h40 : (bu l k).toNat = 40
        · rw [if_pos h40] at hT
          have HT := Lib.hid hT; clear hT
          have e1 : (((bu l k).toNat : Int) == 40) = true := by rw [beq_iff_eq]; omega
          clear h40
          go_wp2_with fail
          go_roundg f
          case measure => omega
          case rel => exact ⟨k + 1, op + 1, by omega, by simp, rfl, by omega, by omega, rfl, HT.out⟩
        · rw [if_neg h40] at hT
          have e1 : (((bu l k).toNat : Int) == 40) = false := by rw [beq_eq_false_iff_ne]; omega
          by_cases h41 : (bu l k).toNat = 41
          · rw [if_pos h41] at hT
            have e2 : (((bu l k).toNat : Int) == 41) = true := by rw [beq_iff_eq]; omega
            by_cases hop : op - 1 < 0
            · rw [if_pos hop] at hT
              have HT := Lib.hid hT; clear hT h41 h40
              go_wp2_with fail
              go_ret
              exact ⟨by rw [← HT.out]; rfl, HB.out⟩
            · rw [if_neg hop] at hT
              have HT := Lib.hid hT; clear hT h41 h40
              go_wp2_with fail
              go_roundg f
              case measure => omega
              case rel => exact ⟨k + 1, op - 1, by omega, by simp, rfl, by omega, by omega, rfl, HT.out⟩
          · rw [if_neg h41] at hT
            have e2 : (((bu l k).toNat : Int) == 41) = false := by rw [beq_eq_false_iff_ne]; omega
            have HT := Lib.hid hT; clear hT h41 h40
            go_wp2_with fail
            go_ret
            exact ⟨by rw [← HT.out]; rfl, HB.out⟩
      · rw [List.drop_of_length_le (by omega)] at hT
        unfold chkGo at hT
        by_cases h0 : op = 0
        · rw [if_pos h0] at hT
          subst h0
          have HT := Lib.hid hT; clear hT
          go_wp2_with fail
          go_ret
          exact ⟨by rw [← HT.out]; rfl, HB.out⟩
        · rw [if_neg h0] at hT
          have HT := Lib.hid hT; clear hT
          have e1 : (op == 0) = false := by rw [beq_eq_false_iff_ne]; omega
          have e2 : (op != 0) = true := by rw [bne_iff_ne]; omega
          clear h0
          go_wp2_with fail
          go_ret
          exact ⟨by rw [← HT.out]; rfl, HB.out⟩

/-- The brackets of a text. -/
def isB (c : UInt8) : Bool := c == 40 || c == 41
def brs (l : List UInt8) : List UInt8 := l.filter isB
theorem brs_app (a b : List UInt8) : brs (a ++ b) = brs a ++ brs b := List.filter_append ..
theorem brs_len (l : List UInt8) : (brs l).length ≤ l.length := List.length_filter_le ..
theorem brs_cons_no {c : UInt8} {l : List UInt8} (h : isB c = false) : brs (c :: l) = brs l := by unfold brs; rw [List.filter_cons_of_neg (by rw [h]; decide)]
theorem brs_cons_yes {c : UInt8} {l : List UInt8} (h : isB c = true) : brs (c :: l) = c :: brs l := by unfold brs; rw [List.filter_cons_of_pos h]
theorem chk_brs : ∀ (l : List UInt8) (d : Nat) (v : Bool) (d' : Nat) (v' : Bool), arun d v l = some (d', v') → chkGo (brs l) d = chkGo [] d' := by
  intro l
  induction l with
  | nil => intro d v d' v' h; simp only [arun, Option.some.injEq, Prod.mk.injEq] at h; rw [h.1]; rfl
  | cons c l ih =>
    intro d v d' v' h
    simp only [arun] at h
    rcases kinds c with ⟨h0, h1, h2, _⟩ | ⟨rfl, _⟩ | ⟨rfl, _⟩ | ⟨_, h1, h2, h0⟩ | ⟨h0, h2, h3, h4⟩
    · rw [astp_dig h0] at h
      rw [brs_cons_no (by simp [isB, h1, h2])]
      cases v <;> simp at h
      exact ih _ _ _ _ h
    · rw [astp_l] at h
      rw [brs_cons_yes (by decide)]
      cases v <;> simp at h
      have := ih _ _ _ _ h
      show (if (40 : UInt8).toNat = 40 then chkGo (brs l) ((d : Int) + 1) else _) = _
      rw [if_pos (by decide)]
      exact this
    · rw [astp_r] at h
      rw [brs_cons_yes (by decide)]
      have hd0 : d ≠ 0 := by intro e; subst e; cases v <;> simp at h
      rw [show (d == 0) = false by simpa using hd0] at h
      cases v <;> simp at h
      have := ih _ _ _ _ h
      show (if (41 : UInt8).toNat = 40 then _ else if (41 : UInt8).toNat = 41 then (if (d : Int) - 1 < 0 then 7 else chkGo (brs l) ((d : Int) - 1)) else 2) = _
      rw [if_neg (by decide), if_pos (by decide), if_neg (by omega), show (d : Int) - 1 = ((d - 1 : Nat) : Int) by omega]
      exact this
    · rw [astp_op h0] at h
      rw [brs_cons_no (by simp [isB, h1, h2])]
      cases v <;> simp at h
      exact ih _ _ _ _ h
    · rw [astp_no h0 h2 h3 h4] at h; cases h
theorem chk_sum {s : List UInt8} {x : Nat} (h : valM s = some x) (hl : (brs s).length ≤ 16) : chk (brs s) = 0 := by
  have ha : acc s := by
    unfold valM at h
    cases hp : postM s with
    | none => rw [hp] at h; cases h
    | some p => exact acc_of_post hp
  unfold chk
  rw [if_neg (by omega)]
  exact (chk_brs s 0 false 0 true ha).trans rfl
theorem wr_len {n : Int} (h : 1 ≤ n ∧ n ≤ 3999) : 1 ≤ (RomanM.wr n).length ∧ (RomanM.wr n).length ≤ 15 := by
  obtain ⟨h1, h2⟩ := RomanM.back_ h
  refine ⟨?_, h2⟩
  rcases Nat.eq_zero_or_pos (RomanM.wr n).length with h0 | h0
  · have e : RomanM.wr n = [] := List.length_eq_zero_iff.1 h0
    rw [e] at h1
    have : RomanM.rd [] = 0 := by decide +kernel
    omega
  · omega
set_option maxRecDepth 100000 in
theorem fact_seven : valM [40, 55, 41] = some 7 := by decide +kernel
set_option maxHeartbeats 400000 in
theorem inT_yes {n lo hi : Int} (h1 : lo ≤ n) (h2 : n ≤ hi) (w : World) :
    Calls Tryd.prog 14 #[.int .i64 n, .int .i64 lo, .int .i64 hi] w fun e w' => e = .returned (.bool true) ∧ w = w' := by
  go_enter Tryd.func14, Tryd.ntmps14
  go_wp2
  go_ret
  exact ⟨rfl, rfl⟩
/-- What is left of the law behind the numeral. -/
def sumG (s : List UInt8) (i : Nat) : List UInt8 := brs (s.take i)
set_option maxRecDepth 100000 in
set_option maxHeartbeats 4000000 in
theorem topSums_walk (s : List UInt8) (n : Int) (w : World) (hs9 : s.length ≤ 9223372036854775807) (hk : KG w) (hp : PG w) :
    Calls Tryd.prog 5 #[S s, .int .i64 n] w fun e w' => e = .returned (.bool true) ∧ Below w.heap.size w w' := by
  have HK := Lib.hid hk
  have HP := Lib.hid hp
  clear hk hp
  go_enter Tryd.func5, Tryd.ntmps5
  go_wp2_with fail
  rcases ve_cases s (valM s) with ⟨x, hls, hxs, hvs⟩ | ⟨k, hk0, hvs, _⟩
  · refine (value_some w HK.out hls hxs).mono ?_
    rintro e w1 ⟨rfl, hb1⟩
    have HB1 := Lib.hid hb1; clear hb1 hvs
    have HXS := Lib.hid hxs; clear hxs
    go_wp2_with fail
    refine (value_some (l := [40, 55, 41]) w1 (HK.out.below HB1.out (Nat.le_refl _)) (by decide) fact_seven).mono ?_
    rintro e w2 ⟨rfl, hb2⟩
    have HB2 := Lib.hid (HB1.out.trans (hb2.mono HB1.out.size)); clear hb2
    go_wp2_with fail
    by_cases hn : 1 ≤ n ∧ n ≤ 3999
    · obtain ⟨g1, g2⟩ := wr_len hn
      refine (write_ok n w2 hn (HP.out.below HB2.out (Nat.le_refl _))).mono ?_
      rintro e w3 ⟨rfl, hb3⟩
      have HB3 := Lib.hid (HB2.out.trans (hb3.mono HB2.out.size)); clear hb3
      generalize RomanM.wr n = r at *
      go_wp2_with fail
      refine (inT_yes (by omega) (by omega) _).mono ?_
      rintro e w4 ⟨rfl, rfl⟩
      clear g1 g2
      go_wp2_with fail
      go_loopg [11, 12] s.length (fun f tv iv wr => ∃ i : Nat, i + f = s.length ∧ iv = .int .i64 (i : Int) ∧ tv = S (sumG s i) ∧ wr = w3)
      case atStart => exact ⟨0, by omega, rfl, rfl, rfl⟩
      case round =>
        obtain ⟨i, hif, rfl, rfl, hw⟩ := hrel
        obtain rfl : w3 = wr := hw.symm
        by_cases hlt : i < s.length
        · obtain ⟨f, rfl⟩ : ∃ f, gk = f + 1 := ⟨gk - 1, by omega⟩
          have t1 : sumG s (i + 1) = sumG s i ++ brs [bu s i] := by unfold sumG; rw [take_succ_bu hlt, brs_app]
          have hd24 := brs_len (s.take i)
          rw [List.length_take] at hd24
          have hd24' : (sumG s i).length ≤ i := by unfold sumG; omega
          have T1 := Lib.hid t1
          have hx := str_one hlt
          clear t1 hd24
          generalize sumG s i = ds at *
          by_cases h40 : bu s i = 40
          · obtain ⟨q1, q2⟩ := q40_eq h40
            have E1 : Hid (sumG s (i + 1) = ds ++ [bu s i]) := Lib.hid (by rw [T1.out, brs_cons_yes (by rw [h40]; decide)]; rfl)
            clear h40
            go_wp2_with fail
            go_roundg f
            case measure => omega
            case rel => exact ⟨i + 1, by omega, by simp, by rw [E1.out], rfl⟩
          · obtain ⟨q1, q2⟩ := q40_ne h40
            by_cases h41 : bu s i = 41
            · have q3 := q41_eq h41
              have E1 : Hid (sumG s (i + 1) = ds ++ [bu s i]) := Lib.hid (by rw [T1.out, brs_cons_yes (by rw [h41]; decide)]; rfl)
              clear h40 h41
              go_wp2_with fail
              go_roundg f
              case measure => omega
              case rel => exact ⟨i + 1, by omega, by simp, by rw [E1.out], rfl⟩
            · have q3 := q41_ne h41
              have E1 : Hid (sumG s (i + 1) = ds) := Lib.hid (by rw [T1.out, brs_cons_no (by simp [isB, h40, h41])]; simp [brs])
              clear h40 h41
              go_wp2_with fail
              go_roundg f
              case measure => omega
              case rel => exact ⟨i + 1, by omega, by simp, by rw [E1.out], rfl⟩
        · obtain rfl : i = s.length := by omega
          have e5 : sumG s s.length = brs s := by unfold sumG; rw [List.take_length]
          have hbl := brs_len s
          rw [e5]
          have HC := Lib.hid (fun h => chk_sum HXS.out h)
          clear e5
          generalize brs s = t at *
          by_cases h16 : t.length ≤ 16
          · have h16' : (t.length : Int) ≤ 16 := by omega
            go_wp2_with fail
            refine (check_any t w3 (by omega)).mono ?_
            rw [HC.out h16]
            rintro e w5 ⟨rfl, hb5⟩
            have HB5 := Lib.hid (HB3.out.trans (hb5.mono HB3.out.size)); clear hb5
            rw [show errV 0 = .nilIface from rfl]
            go_wp2_with fail
            go_ret
            exact ⟨rfl, HB5.out⟩
          · have h16' : (16 : Int) < (t.length : Int) := by omega
            go_wp2_with fail
            go_ret
            exact ⟨rfl, HB3.out⟩
    · refine (write_no n w2 hn).mono ?_
      rintro e w3 ⟨rfl, rfl⟩
      have HB3 := Lib.hid HB2.out
      generalize hw23 : w2 = w3 at *
      clear hw23
      go_wp2_with fail
      go_loopg [11, 12] s.length (fun f tv iv wr => ∃ i : Nat, i + f = s.length ∧ iv = .int .i64 (i : Int) ∧ tv = S (sumG s i) ∧ wr = w3)
      case atStart => exact ⟨0, by omega, rfl, rfl, rfl⟩
      case round =>
        obtain ⟨i, hif, rfl, rfl, hw⟩ := hrel
        obtain rfl : w3 = wr := hw.symm
        by_cases hlt : i < s.length
        · obtain ⟨f, rfl⟩ : ∃ f, gk = f + 1 := ⟨gk - 1, by omega⟩
          have t1 : sumG s (i + 1) = sumG s i ++ brs [bu s i] := by unfold sumG; rw [take_succ_bu hlt, brs_app]
          have hd24 := brs_len (s.take i)
          rw [List.length_take] at hd24
          have hd24' : (sumG s i).length ≤ i := by unfold sumG; omega
          have T1 := Lib.hid t1
          have hx := str_one hlt
          clear t1 hd24
          generalize sumG s i = ds at *
          by_cases h40 : bu s i = 40
          · obtain ⟨q1, q2⟩ := q40_eq h40
            have E1 : Hid (sumG s (i + 1) = ds ++ [bu s i]) := Lib.hid (by rw [T1.out, brs_cons_yes (by rw [h40]; decide)]; rfl)
            clear h40
            go_wp2_with fail
            go_roundg f
            case measure => omega
            case rel => exact ⟨i + 1, by omega, by simp, by rw [E1.out], rfl⟩
          · obtain ⟨q1, q2⟩ := q40_ne h40
            by_cases h41 : bu s i = 41
            · have q3 := q41_eq h41
              have E1 : Hid (sumG s (i + 1) = ds ++ [bu s i]) := Lib.hid (by rw [T1.out, brs_cons_yes (by rw [h41]; decide)]; rfl)
              clear h40 h41
              go_wp2_with fail
              go_roundg f
              case measure => omega
              case rel => exact ⟨i + 1, by omega, by simp, by rw [E1.out], rfl⟩
            · have q3 := q41_ne h41
              have E1 : Hid (sumG s (i + 1) = ds) := Lib.hid (by rw [T1.out, brs_cons_no (by simp [isB, h40, h41])]; simp [brs])
              clear h40 h41
              go_wp2_with fail
              go_roundg f
              case measure => omega
              case rel => exact ⟨i + 1, by omega, by simp, by rw [E1.out], rfl⟩
        · obtain rfl : i = s.length := by omega
          have e5 : sumG s s.length = brs s := by unfold sumG; rw [List.take_length]
          have hbl := brs_len s
          rw [e5]
          have HC := Lib.hid (fun h => chk_sum HXS.out h)
          clear e5
          generalize brs s = t at *
          by_cases h16 : t.length ≤ 16
          · have h16' : (t.length : Int) ≤ 16 := by omega
            go_wp2_with fail
            refine (check_any t w3 (by omega)).mono ?_
            rw [HC.out h16]
            rintro e w5 ⟨rfl, hb5⟩
            have HB5 := Lib.hid (HB3.out.trans (hb5.mono HB3.out.size)); clear hb5
            rw [show errV 0 = .nilIface from rfl]
            go_wp2_with fail
            go_ret
            exact ⟨rfl, HB5.out⟩
          · have h16' : (16 : Int) < (t.length : Int) := by omega
            go_wp2_with fail
            go_ret
            exact ⟨rfl, HB3.out⟩
  · refine (value_none w HK.out hvs).mono ?_
    rintro e w1 ⟨rfl, hb1⟩
    have HB1 := Lib.hid hb1; clear hb1 hvs hk0
    go_wp2_with fail
    refine (value_some (l := [40, 55, 41]) w1 (HK.out.below HB1.out (Nat.le_refl _)) (by decide) fact_seven).mono ?_
    rintro e w2 ⟨rfl, hb2⟩
    have HB2 := Lib.hid (HB1.out.trans (hb2.mono HB1.out.size)); clear hb2
    go_wp2_with fail
    by_cases hn : 1 ≤ n ∧ n ≤ 3999
    · obtain ⟨g1, g2⟩ := wr_len hn
      refine (write_ok n w2 hn (HP.out.below HB2.out (Nat.le_refl _))).mono ?_
      rintro e w3 ⟨rfl, hb3⟩
      have HB3 := Lib.hid (HB2.out.trans (hb3.mono HB2.out.size)); clear hb3
      generalize RomanM.wr n = r at *
      go_wp2_with fail
      refine (inT_yes (by omega) (by omega) _).mono ?_
      rintro e w4 ⟨rfl, rfl⟩
      go_wp2_with fail
      go_ret
      exact ⟨rfl, HB3.out⟩
    · refine (write_no n w2 hn).mono ?_
      rintro e w3 ⟨rfl, rfl⟩
      go_wp2_with fail
      go_ret
      exact ⟨rfl, HB2.out⟩
end Go.Proofs.YtehecbfgdpaemaaDoor
