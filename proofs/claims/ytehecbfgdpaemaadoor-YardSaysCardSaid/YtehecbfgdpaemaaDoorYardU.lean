/- The walk over the document's Post. No condition. -/
import Derived.Test.YtehecbfgdpaemaaDoorYardR
namespace Go.Proofs.YtehecbfgdpaemaaDoor
open Go.RowKit YardM IntWalk
attribute [local go_sem] byte_at str_app

theorem str_to (a : List UInt8) (k : Nat) : (ByteArray.mk a.toArray).extract 0 k = ByteArray.mk (a.take k).toArray := by
  rw [Lib.extract_eq]; simp
theorem str_from (a : List UInt8) (k : Nat) : (ByteArray.mk a.toArray).extract k a.length = ByteArray.mk (a.drop k).toArray := by
  rw [Lib.extract_eq]
  simp [List.take_of_length_le]
theorem str_in (a : List UInt8) (k : Nat) : (ByteArray.mk a.toArray).extract 1 k = ByteArray.mk ((a.take k).drop 1).toArray := by
  rw [Lib.extract_eq, List.drop_take]
/-- What the document's Post gives. -/
def rpV (o : Option (List UInt8)) : Value := match o with
  | some p => .tuple #[S p, .bool true]
  | none => .tuple #[S [], .bool false]
def atV : Option Nat → Int
  | none => -1
  | some j => j
theorem opn_bd (l : List UInt8) : -(l.length : Int) ≤ opn l ∧ opn l ≤ l.length := by
  induction l with
  | nil => simp [opn]
  | cons c l ih =>
    have : -1 ≤ sg c ∧ sg c ≤ 1 := by unfold sg; split; decide; split <;> decide
    simp only [opn, List.length_cons]
    omega
theorem atp_lt {s : List UInt8} {n j : Nat} (h : atp s n = some j) : j < n := (atp_some h).1
theorem atp_step (s : List UInt8) (i : Nat) : atp s (i + 1) = if cnd s i (atp s i) then some i else atp s i := rfl

theorem atp_zero (s : List UInt8) : atp s 0 = none := rfl
theorem rpost_none {f : Nat} {s : List UInt8} (h : atp s s.length = none) : rpost (f + 1) s = if s.length == 1 && dig (bu s 0) then some s
            else if decide (2 < s.length) && (bu s 0 == 40 && bu s (s.length - 1) == 41) then rpost f ((s.take (s.length - 1)).tail) else none := by rw [rpost, h, List.drop_one]
theorem rpost_some {f : Nat} {s : List UInt8} {j : Nat} (h : atp s s.length = some j) : rpost (f + 1) s = match rpost f (s.take j), rpost f (s.drop (j + 1)) with
            | some a, some b => some (a ++ b ++ [bu s j])
            | _, _ => none := by rw [rpost, h]; rfl
attribute [local irreducible] rpost atp
set_option maxRecDepth 100000 in
set_option maxHeartbeats 4000000 in
theorem rpost_any : ∀ (f : Nat) (s : List UInt8) (w : World), s.length < f → s.length ≤ 24 →
    Calls Tryd.prog 17 #[S s] w fun e w' => e = .returned (rpV (rpost f s)) ∧ w' = w := by
  intro f
  induction f with
  | zero => intro s w h; omega
  | succ f ih =>
    intro s w hf hl
    have IH := Lib.hid ih
    clear ih
    obtain ⟨A, hA⟩ : ∃ A, A = atp s s.length := ⟨_, rfl⟩
    have HA := Lib.hid hA
    clear hA
    go_enter Tryd.func17, Tryd.ntmps17
    go_wp2_with fail
    go_loopg [4, 5, 6] s.length (fun q ov av iv wr => ∃ i : Nat, i + q = s.length ∧ iv = .int .i64 (i : Int) ∧ ov = .int .i64 (opn (s.take i)) ∧ av = .int .i64 (atV (atp s i)) ∧ wr = w)
    case atStart => exact ⟨0, by omega, rfl, rfl, by rw [atp_zero]; rfl, rfl⟩
    case round =>
      obtain ⟨i, hif, rfl, rfl, rfl, hw⟩ := hrel
      obtain rfl : w = wr := hw.symm
      by_cases hlt : i < s.length
      · obtain ⟨q, rfl⟩ : ∃ q, gk = q + 1 := ⟨gk - 1, by omega⟩
        have ho1 : opn (s.take (i + 1)) = opn (s.take i) + sg (bu s i) := by rw [take_succ_bu hlt, opn_app]; simp [opn]
        have hbd := opn_bd (s.take i)
        have hll : (s.take i).length = i := by rw [List.length_take]; omega
        rw [hll] at hbd
        have hst := atp_step s i
        have hal : ∀ j, atp s i = some j → j < i := fun j h => atp_lt h
        generalize hO : opn (s.take i) = O at *
        clear hO hll
        have HO1 := Lib.hid ho1
        have HST := Lib.hid hst
        have HAL := Lib.hid hal
        clear hst ho1 hal
        rcases kinds (bu s i) with ⟨hd, h40, h41, hr0⟩ | ⟨h40, hd, hr0⟩ | ⟨h41, hd, hr0⟩ | ⟨hd, h40, h41, hr0⟩ | ⟨hd, h40, h41, hr0⟩
        · have q1 := qn_ne (c := bu s i) (k := 40) (d := 40) (by decide) h40
          have q2 := qn_ne (c := bu s i) (k := 41) (d := 41) (by decide) h41
          have E1 : Hid (opn (s.take (i + 1)) = O) := Lib.hid (by rw [HO1.out, sg_dig hd]; omega)
          have E2 : Hid (atp s (i + 1) = atp s i) := Lib.hid (by rw [HST.out, if_neg]; unfold cnd; rw [hr0]; simp)
          have HR0 := Lib.hid hr0
          clear hd h40 h41 hr0
          by_cases hO0 : O = 0
          · have hO1 : (O == 0) = true := by simpa using hO0
            clear hO0
            go_wp2_with fail
            refine (rank_any _ _).mono ?_
            rw [HR0.out]
            rintro e w' ⟨rfl, rfl⟩
            go_wp2_with fail
            go_roundg q
            case measure => omega
            case rel => exact ⟨i + 1, by omega, by simp, by rw [E1.out], by rw [E2.out], rfl⟩
          · have hO1 : (O == 0) = false := by simpa using hO0
            clear hO0
            go_wp2_with fail
            refine (rank_any _ _).mono ?_
            rw [HR0.out]
            rintro e w' ⟨rfl, rfl⟩
            go_wp2_with fail
            go_roundg q
            case measure => omega
            case rel => exact ⟨i + 1, by omega, by simp, by rw [E1.out], by rw [E2.out], rfl⟩
        · have q1 := qn_eq (c := bu s i) (k := 40) (d := 40) (by decide) h40
          have q2 := qn_ne (c := bu s i) (k := 41) (d := 41) (by decide) (by rw [h40]; decide)
          have E1 : Hid (opn (s.take (i + 1)) = O + 1) := Lib.hid (by rw [HO1.out, h40]; rfl)
          have E2 : Hid (atp s (i + 1) = atp s i) := Lib.hid (by rw [HST.out, if_neg]; unfold cnd; rw [hr0]; simp)
          have HR0 := Lib.hid hr0
          clear hd h40 hr0
          by_cases hO0 : (O + 1) = 0
          · have hO1 : ((O + 1) == 0) = true := by simpa using hO0
            clear hO0
            go_wp2_with fail
            refine (rank_any _ _).mono ?_
            rw [HR0.out]
            rintro e w' ⟨rfl, rfl⟩
            go_wp2_with fail
            go_roundg q
            case measure => omega
            case rel => exact ⟨i + 1, by omega, by simp, by rw [E1.out], by rw [E2.out], rfl⟩
          · have hO1 : ((O + 1) == 0) = false := by simpa using hO0
            clear hO0
            go_wp2_with fail
            refine (rank_any _ _).mono ?_
            rw [HR0.out]
            rintro e w' ⟨rfl, rfl⟩
            go_wp2_with fail
            go_roundg q
            case measure => omega
            case rel => exact ⟨i + 1, by omega, by simp, by rw [E1.out], by rw [E2.out], rfl⟩
        · have q1 := qn_ne (c := bu s i) (k := 40) (d := 40) (by decide) (by rw [h41]; decide)
          have q2 := qn_eq (c := bu s i) (k := 41) (d := 41) (by decide) h41
          have E1 : Hid (opn (s.take (i + 1)) = O - 1) := Lib.hid (by rw [HO1.out, h41]; show O + -1 = O - 1; omega)
          have E2 : Hid (atp s (i + 1) = atp s i) := Lib.hid (by rw [HST.out, if_neg]; unfold cnd; rw [hr0]; simp)
          have HR0 := Lib.hid hr0
          clear hd h41 hr0
          by_cases hO0 : (O - 1) = 0
          · have hO1 : ((O - 1) == 0) = true := by simpa using hO0
            clear hO0
            go_wp2_with fail
            refine (rank_any _ _).mono ?_
            rw [HR0.out]
            rintro e w' ⟨rfl, rfl⟩
            go_wp2_with fail
            go_roundg q
            case measure => omega
            case rel => exact ⟨i + 1, by omega, by simp, by rw [E1.out], by rw [E2.out], rfl⟩
          · have hO1 : ((O - 1) == 0) = false := by simpa using hO0
            clear hO0
            go_wp2_with fail
            refine (rank_any _ _).mono ?_
            rw [HR0.out]
            rintro e w' ⟨rfl, rfl⟩
            go_wp2_with fail
            go_roundg q
            case measure => omega
            case rel => exact ⟨i + 1, by omega, by simp, by rw [E1.out], by rw [E2.out], rfl⟩
        · have q1 := qn_ne (c := bu s i) (k := 40) (d := 40) (by decide) h40
          have q2 := qn_ne (c := bu s i) (k := 41) (d := 41) (by decide) h41
          have E1 : Hid (opn (s.take (i + 1)) = O) := Lib.hid (by rw [HO1.out, sg_rk hr0]; omega)
          clear hd h40 h41
          by_cases hO0 : O = 0
          · subst hO0
            have HCN : ∀ (b : Bool), bet s i (atp s i) = b → atp s (i + 1) = if b then some i else atp s i := fun b hb => by
              rw [HST.out]; unfold cnd; rw [E1.out, hb]; simp [hr0]
            have HCN := Lib.hid HCN
            cases hat : atp s i with
            | none =>
              have ea : atV none = -1 := rfl
              have E2 : Hid (atp s (i + 1) = some i) := Lib.hid (HCN.out true (by rw [hat]; rfl))
              have hk0 : (0 : Int) < (rk (bu s i) : Int) := by omega
              clear hat
              go_wp2_with fail
              refine (rank_any _ _).mono ?_
              rintro e w' ⟨rfl, rfl⟩
              go_wp2_with fail
              go_roundg q
              case measure => omega
              case rel => exact ⟨i + 1, by omega, by simp, by rw [E1.out], by rw [E2.out]; rfl, rfl⟩
            | some j =>
              have ea : atV (some j) = (j : Int) := rfl
              have hj := HAL.out j hat
              have hk0 : (0 : Int) < (rk (bu s i) : Int) := by omega
              have hbet : bet s i (some j) = (decide (rk (bu s i) < rk (bu s j)) || (rk (bu s i) == rk (bu s j) && decide (rk (bu s i) < 3))) := rfl
              generalize hk : rk (bu s i) = k at *
              generalize hm : rk (bu s j) = m at *
              have HK := Lib.hid hk; have HM := Lib.hid hm
              clear hk hm
              rcases Nat.lt_trichotomy k m with h1 | h1 | h1
              · have E2 : Hid (atp s (i + 1) = some i) := Lib.hid (HCN.out true (by rw [hat, hbet]; simp [h1]))
                have t1 : decide ((k : Int) < (m : Int)) = true := by simp; omega
                have t1n : decide (k < m) = true := by simp; omega
                clear hat hbet h1
                go_wp2_with fail
                refine (rank_any _ _).mono ?_
                rw [HK.out]
                rintro e w' ⟨rfl, rfl⟩
                go_wp2_with fail
                refine (rank_any _ _).mono ?_
                rw [HM.out]
                rintro e w' ⟨rfl, rfl⟩
                go_wp2_with fail
                go_roundg q
                case measure => omega
                case rel => exact ⟨i + 1, by omega, by simp, by rw [E1.out], by rw [E2.out]; rfl, rfl⟩
              · subst h1
                by_cases h3 : k < 3
                · have E2 : Hid (atp s (i + 1) = some i) := Lib.hid (HCN.out true (by rw [hat, hbet]; simp [h3]))
                  have t3 : (k : Int) < 3 := by omega
                  clear hat hbet
                  go_wp2_with fail
                  refine (rank_any _ _).mono ?_
                  rw [HK.out]
                  rintro e w' ⟨rfl, rfl⟩
                  go_wp2_with fail
                  refine (rank_any _ _).mono ?_
                  rw [HM.out]
                  rintro e w' ⟨rfl, rfl⟩
                  go_wp2_with fail
                  refine (rank_any _ _).mono ?_
                  rw [HM.out]
                  rintro e w' ⟨rfl, rfl⟩
                  go_wp2_with fail
                  go_roundg q
                  case measure => omega
                  case rel => exact ⟨i + 1, by omega, by simp, by rw [E1.out], by rw [E2.out]; rfl, rfl⟩
                · have E2 : Hid (atp s (i + 1) = some j) := Lib.hid ((HCN.out false (by rw [hat, hbet]; simp [h3])).trans hat)
                  have t3 : (3 : Int) ≤ (k : Int) := by omega
                  clear hat hbet
                  go_wp2_with fail
                  refine (rank_any _ _).mono ?_
                  rw [HK.out]
                  rintro e w' ⟨rfl, rfl⟩
                  go_wp2_with fail
                  refine (rank_any _ _).mono ?_
                  rw [HM.out]
                  rintro e w' ⟨rfl, rfl⟩
                  go_wp2_with fail
                  refine (rank_any _ _).mono ?_
                  rw [HM.out]
                  rintro e w' ⟨rfl, rfl⟩
                  go_wp2_with fail
                  go_roundg q
                  case measure => omega
                  case rel => exact ⟨i + 1, by omega, by simp, by rw [E1.out], by rw [E2.out]; rfl, rfl⟩
              · have E2 : Hid (atp s (i + 1) = some j) := Lib.hid ((HCN.out false (by rw [hat, hbet]; simp; omega)).trans hat)
                have t1 : decide ((k : Int) < (m : Int)) = false := by simp; omega
                have t1n : decide (k < m) = false := by simp; omega
                have t2 : ((k : Int) == (m : Int)) = false := by simp; omega
                have t2n : (k == m) = false := by simp; omega
                clear hat hbet h1
                go_wp2_with fail
                refine (rank_any _ _).mono ?_
                rw [HK.out]
                rintro e w' ⟨rfl, rfl⟩
                go_wp2_with fail
                refine (rank_any _ _).mono ?_
                rw [HM.out]
                rintro e w' ⟨rfl, rfl⟩
                go_wp2_with fail
                refine (rank_any _ _).mono ?_
                rw [HM.out]
                rintro e w' ⟨rfl, rfl⟩
                go_wp2_with fail
                go_roundg q
                case measure => omega
                case rel => exact ⟨i + 1, by omega, by simp, by rw [E1.out], by rw [E2.out]; rfl, rfl⟩
          · have E2 : Hid (atp s (i + 1) = atp s i) := Lib.hid (by rw [HST.out, if_neg]; unfold cnd; rw [E1.out]; simp [hO0])
            have hO1 : (O == 0) = false := by simpa using hO0
            clear hr0 hO0
            go_wp2_with fail
            refine (rank_any _ _).mono ?_
            rintro e w' ⟨rfl, rfl⟩
            go_wp2_with fail
            go_roundg q
            case measure => omega
            case rel => exact ⟨i + 1, by omega, by simp, by rw [E1.out], by rw [E2.out], rfl⟩
        · have q1 := qn_ne (c := bu s i) (k := 40) (d := 40) (by decide) h40
          have q2 := qn_ne (c := bu s i) (k := 41) (d := 41) (by decide) h41
          have hsg : sg (bu s i) = 0 := by unfold sg; simp [h40, h41]
          have E1 : Hid (opn (s.take (i + 1)) = O) := Lib.hid (by rw [HO1.out, hsg]; omega)
          have E2 : Hid (atp s (i + 1) = atp s i) := Lib.hid (by rw [HST.out, if_neg]; unfold cnd; rw [hr0]; simp)
          have HR0 := Lib.hid hr0
          clear hd h40 h41 hr0 hsg
          by_cases hO0 : O = 0
          · have hO1 : (O == 0) = true := by simpa using hO0
            clear hO0
            go_wp2_with fail
            refine (rank_any _ _).mono ?_
            rw [HR0.out]
            rintro e w' ⟨rfl, rfl⟩
            go_wp2_with fail
            go_roundg q
            case measure => omega
            case rel => exact ⟨i + 1, by omega, by simp, by rw [E1.out], by rw [E2.out], rfl⟩
          · have hO1 : (O == 0) = false := by simpa using hO0
            clear hO0
            go_wp2_with fail
            refine (rank_any _ _).mono ?_
            rw [HR0.out]
            rintro e w' ⟨rfl, rfl⟩
            go_wp2_with fail
            go_roundg q
            case measure => omega
            case rel => exact ⟨i + 1, by omega, by simp, by rw [E1.out], by rw [E2.out], rfl⟩
      · obtain rfl : i = s.length := by omega
        cases hat : atp s s.length with
        | none =>
          have ea : atV none = -1 := rfl
          have HRP := Lib.hid (rpost_none (f := f) hat)
          clear hat
          by_cases h1 : s.length = 1
          · have e1 : ((s.length : Int) == 1) = true := by simp; omega
            have h0 : 0 < s.length := by omega
            cases hd : dig (bu s 0)
            · have HR2 : Hid (rpost (f + 1) s = none) := Lib.hid (by rw [HRP.out, hd]; simp; omega)
              have e2 : ¬ (2 < (s.length : Int)) := by omega
              rcases dig_no hd with h48 | ⟨h57, h48⟩
              all_goals
                clear hd
                go_wp2_with fail
                go_ret2
                exact ⟨by rw [HR2.out]; rfl, rfl⟩
            · have HR2 : Hid (rpost (f + 1) s = some s) := Lib.hid (by rw [HRP.out, hd, if_pos (by simp [h1])])
              obtain ⟨h48, h57⟩ := dig_yes hd
              clear hd
              go_wp2_with fail
              go_ret2
              exact ⟨by rw [HR2.out]; rfl, rfl⟩
          · have e1 : ((s.length : Int) == 1) = false := by simp; omega
            by_cases h2 : 2 < s.length
            · have h0 : 0 < s.length := by omega
              have e2 : (2 : Int) < (s.length : Int) := by omega
              have hi : s.length - 1 < s.length := by omega
              have hcst : (((s.length - 1 : Nat)) : Int) = (s.length : Int) - 1 := by omega
              by_cases h40 : bu s 0 = 40
              · have q1 := qn_eq (c := bu s 0) (k := 40) (d := 40) (by decide) h40
                by_cases h41 : bu s (s.length - 1) = 41
                · have q2 := qn_eq (c := bu s (s.length - 1)) (k := 41) (d := 41) (by decide) h41
                  have HR2 : Hid (rpost (f + 1) s = rpost f ((s.take (s.length - 1)).tail)) := Lib.hid (by rw [HRP.out, if_neg (by simp [h1]), if_pos (by simp [h2, h40, h41])])
                  have hx := str_in s (s.length - 1)
                  clear h40 h41
                  go_wp2_with fail
                  refine (IH.out ((s.take (s.length - 1)).tail) _ (by simp; omega) (by simp; omega)).mono ?_
                  rw [← HR2.out]
                  rintro e w' ⟨rfl, rfl⟩
                  cases hrp : rpost (f + 1) s
                  all_goals
                    have HRPP := Lib.hid hrp
                    clear hrp
                    unfold rpV
                    go_wp2_with fail
                    go_ret2
                    exact ⟨by rw [HRPP.out]; rfl, rfl⟩
                · have q2 := qn_ne (c := bu s (s.length - 1)) (k := 41) (d := 41) (by decide) h41
                  have HR2 : Hid (rpost (f + 1) s = none) := Lib.hid (by rw [HRP.out, if_neg (by simp [h1]), if_neg (by simp [h41])])
                  clear h40 h41
                  go_wp2_with fail
                  go_ret2
                  exact ⟨by rw [HR2.out]; rfl, rfl⟩
              · have q1 := qn_ne (c := bu s 0) (k := 40) (d := 40) (by decide) h40
                have HR2 : Hid (rpost (f + 1) s = none) := Lib.hid (by rw [HRP.out, if_neg (by simp [h1]), if_neg (by simp [h40])])
                clear h40
                go_wp2_with fail
                go_ret2
                exact ⟨by rw [HR2.out]; rfl, rfl⟩
            · have e2 : ¬ (2 < (s.length : Int)) := by omega
              have HR2 : Hid (rpost (f + 1) s = none) := Lib.hid (by rw [HRP.out, if_neg (by simp [h1]), if_neg (by simp [h2])])
              go_wp2_with fail
              go_ret2
              exact ⟨by rw [HR2.out]; rfl, rfl⟩
        | some j =>
          have ea : atV (some j) = (j : Int) := rfl
          have hj := atp_lt hat
          have HRP := Lib.hid (rpost_some (f := f) hat)
          clear hat
          have hx1 := str_to s j
          have hx2 := str_from s (j + 1)
          have hx3 := str_one hj
          have la : (s.take j).length = j := by rw [List.length_take]; omega
          have lb : (s.drop (j + 1)).length = s.length - (j + 1) := List.length_drop ..
          have HL := Lib.hid (And.intro la lb)
          clear la lb
          go_wp2_with fail
          refine (IH.out (s.take j) _ (by have := HL.out.1; omega) (by have := HL.out.1; omega)).mono ?_
          cases ha : rpost f (s.take j) with
          | none =>
            rintro e w' ⟨rfl, rfl⟩
            have HN : Hid (rpost (f + 1) s = none) := Lib.hid (by rw [HRP.out, ha])
            clear ha
            unfold rpV
            go_wp2_with fail
            refine (IH.out (s.drop (j + 1)) _ (by have := HL.out.2; omega) (by have := HL.out.2; omega)).mono ?_
            cases hb : rpost f (s.drop (j + 1))
            all_goals
              rintro e w' ⟨rfl, rfl⟩
              clear hb
              unfold rpV
              go_wp2_with fail
              go_ret2
              exact ⟨by rw [HN.out]; rfl, rfl⟩
          | some a =>
            rintro e w' ⟨rfl, rfl⟩
            have hal : a.length ≤ j := by rw [rpost_post (by have := HL.out.1; omega)] at ha; have := postM_len ha; have := HL.out.1; omega
            have HAA := Lib.hid ha
            clear ha
            unfold rpV
            go_wp2_with fail
            refine (IH.out (s.drop (j + 1)) _ (by have := HL.out.2; omega) (by have := HL.out.2; omega)).mono ?_
            cases hb : rpost f (s.drop (j + 1)) with
            | none =>
              rintro e w' ⟨rfl, rfl⟩
              have HN : Hid (rpost (f + 1) s = none) := Lib.hid (by rw [HRP.out, HAA.out, hb])
              clear hb
              unfold rpV
              go_wp2_with fail
              go_ret2
              exact ⟨by rw [HN.out]; rfl, rfl⟩
            | some b =>
              rintro e w' ⟨rfl, rfl⟩
              have hbl : b.length ≤ s.length := by rw [rpost_post (by have := HL.out.2; omega)] at hb; have := postM_len hb; have := HL.out.2; omega
              have HN : Hid (rpost (f + 1) s = some (a ++ b ++ [bu s j])) := Lib.hid (by rw [HRP.out, HAA.out, hb])
              clear hb
              unfold rpV
              go_wp2_with fail
              go_ret2
              exact ⟨by rw [HN.out]; simp [rpV], rfl⟩
end Go.Proofs.YtehecbfgdpaemaaDoor
