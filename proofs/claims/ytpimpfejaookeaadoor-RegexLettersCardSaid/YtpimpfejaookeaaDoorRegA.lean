/- The laws RegexPattern, RegexNull: their walks. Condition: errors.errorType. -/
import Derived.Test.YtpimpfejaookeaaDoorRegK
namespace Go.Proofs.YtpimpfejaookeaaDoor
open Go.RowKit Go.Lib Go.Sort IntWalk
attribute [local go_sem] byte_at str_app

set_option maxRecDepth 100000 in
set_option maxHeartbeats 2000000 in
theorem regexPattern_walk (w : World) (p : List UInt8) (h9 : p.length ≤ 9223372036854775807) (hg : HG w) :
    Calls Tryd.prog 5 #[S p] w fun e w' => e = .returned (.bool true) ∧ Below w.heap.size w w' := by
  have HG0 := Lib.hid hg
  have HFA := Lib.hid (regFact_any w hg)
  have HC0 := Lib.hid (fun W => check_any p W h9)
  clear hg
  by_cases h10 : 10 < p.length
  · have hk : p.length ≤ 12 ∨ parsE p = 4 := by
      rcases Nat.lt_or_ge 12 p.length with h | h
      · exact .inr (parsE_long h)
      · exact .inl h
    have p1 : (10 : Int) < (p.length : Int) := by omega
    have HK := Lib.hid hk
    generalize hpe : parsE p = k at *
    clear hpe hk
    go_enter Tryd.func5, Tryd.ntmps5
    go_wp2_with fail
    refine HFA.out.mono ?_
    rintro e w1 ⟨rfl, hb1⟩
    have HB1 := Lib.hid hb1
    clear hb1 h10
    go_wp2_with fail
    refine (HC0.out _).mono ?_
    rintro e w2 ⟨rfl, hb2⟩
    have HB2 := Lib.hid (HB1.out.trans (hb2.mono HB1.out.size))
    clear hb2 HFA HC0
    by_cases hk0 : k = 0
    · subst hk0
      rw [show errV 0 = .nilIface from rfl]
      have p2 : (p.length : Int) ≤ 12 := by
        rcases HK.out with h | h
        · omega
        · exact absurd h (by decide)
      go_wp2_with fail
      go_ret
      exact ⟨rfl, HB2.out⟩
    · rw [err_ne hk0]
      go_wp2_with fail
      go_ret
      exact ⟨rfl, HB2.out⟩
  have p1 : ¬ (10 : Int) < (p.length : Int) := by omega
  have HCA := Lib.hid (fun W => check_any (40 :: p) W (by simp; omega))
  have HCB := Lib.hid (fun W => check_any (p ++ [41]) W (by simp; omega))
  have HCC := Lib.hid (fun W => check_any (40 :: (p ++ [41])) W (by simp; omega))
  have g1 : ¬ 9223372036854775807 < 1 + p.length := by omega
  have g2 : ¬ 9223372036854775807 < p.length + 1 := by omega
  have g3 : ¬ 9223372036854775807 < (40 :: p).length + 1 := by simp; omega
  have g4 : ¬ 9223372036854775807 < p.length + 1 + 1 := by omega
  cases hpp : par p with
  | none =>
    have hk : parsE p = 2 := parsE_no (by omega) hpp
    rw [hk] at HC0
    have ha : parsE (40 :: p) = parsE (40 :: p) := rfl
    generalize parsE (40 :: p) = ka at *
    generalize parsE (p ++ [41]) = kb at *
    generalize parsE (40 :: (p ++ [41])) = kc at *
    clear ha hk hpp h10
    go_enter Tryd.func5, Tryd.ntmps5
    go_wp2_with fail
    refine HFA.out.mono ?_
    rintro e w1 ⟨rfl, hb1⟩
    have HB1 := Lib.hid hb1
    clear hb1
    go_wp2_with fail
    refine (HC0.out _).mono ?_
    rintro e w2 ⟨rfl, hb2⟩
    have HB2 := Lib.hid (HB1.out.trans (hb2.mono HB1.out.size))
    clear hb2 HFA HC0
    rw [show errV 2 = .iface 51 (.int .i64 2) from rfl]
    go_wp2_with fail
    refine (HCA.out _).mono ?_
    rintro e w3 ⟨rfl, hb3⟩
    have HB3 := Lib.hid (HB2.out.trans (hb3.mono HB2.out.size))
    clear hb3
    go_wp2_with fail
    refine (HCB.out _).mono ?_
    rintro e w4 ⟨rfl, hb4⟩
    have HB4 := Lib.hid (HB3.out.trans (hb4.mono HB3.out.size))
    clear hb4
    go_wp2_with fail
    refine (HCC.out _).mono ?_
    rintro e w5 ⟨rfl, hb5⟩
    have HB5 := Lib.hid (HB4.out.trans (hb5.mono HB4.out.size))
    have HE := Lib.hid (error_any 2 2 w5 (HG0.out.below HB5.out (Nat.le_refl _)))
    clear hb5
    go_wp2_with fail
    refine HE.out.mono ?_
    rw [beq_self_eq_true]
    rintro e w6 ⟨rfl, hb6⟩
    have HB6 := Lib.hid (HB5.out.trans (hb6.mono HB5.out.size))
    clear hb6
    go_wp2_with fail
    go_ret
    exact ⟨rfl, HB6.out⟩
  | some t =>
    have hk : parsE p = 0 := parsE_of (by omega) hpp
    have ha : parsE (40 :: p) = 2 := parsE_no (by simp; omega) (par_open hpp)
    have hb : parsE (p ++ [41]) = 2 := parsE_no (by simp; omega) (par_shut hpp)
    have hc : parsE (40 :: (p ++ [41])) = 0 := by
      obtain ⟨t', h⟩ := par_br hpp
      exact parsE_of (by simp; omega) h
    rw [hk] at HC0
    rw [ha] at HCA
    rw [hb] at HCB
    rw [hc] at HCC
    clear ha hb hc hk hpp h10
    go_enter Tryd.func5, Tryd.ntmps5
    go_wp2_with fail
    refine HFA.out.mono ?_
    rintro e w1 ⟨rfl, hb1⟩
    have HB1 := Lib.hid hb1
    clear hb1
    go_wp2_with fail
    refine (HC0.out _).mono ?_
    rintro e w2 ⟨rfl, hb2⟩
    have HB2 := Lib.hid (HB1.out.trans (hb2.mono HB1.out.size))
    clear hb2 HFA HC0
    rw [show errV 0 = .nilIface from rfl]
    go_wp2_with fail
    refine (HCA.out _).mono ?_
    rintro e w3 ⟨rfl, hb3⟩
    have HB3 := Lib.hid (HB2.out.trans (hb3.mono HB2.out.size))
    clear hb3
    go_wp2_with fail
    refine (HCB.out _).mono ?_
    rintro e w4 ⟨rfl, hb4⟩
    have HB4 := Lib.hid (HB3.out.trans (hb4.mono HB3.out.size))
    clear hb4
    go_wp2_with fail
    refine (HCC.out _).mono ?_
    rintro e w5 ⟨rfl, hb5⟩
    have HB5 := Lib.hid (HB4.out.trans (hb5.mono HB4.out.size))
    have HE := Lib.hid (error_any 2 2 w5 (HG0.out.below HB5.out (Nat.le_refl _)))
    clear hb5
    rw [show errV 0 = .nilIface from rfl]
    go_wp2_with fail
    refine HE.out.mono ?_
    rw [beq_self_eq_true]
    rintro e w6 ⟨rfl, hb6⟩
    have HB6 := Lib.hid (HB5.out.trans (hb6.mono HB5.out.size))
    have HE2 := Lib.hid (error_any 2 2 w6 (HG0.out.below HB6.out (Nat.le_refl _)))
    clear hb6
    go_wp2_with fail
    refine HE2.out.mono ?_
    rw [beq_self_eq_true]
    rintro e w7 ⟨rfl, hb7⟩
    have HB7 := Lib.hid (HB6.out.trans (hb7.mono HB6.out.size))
    clear hb7
    go_wp2_with fail
    go_ret
    exact ⟨rfl, HB7.out⟩

/-- What Null answers, whatever it is. -/
def NulSays (s : List UInt8) (x : Bool) (k : Int) : Prop := (k ≠ 0 ∧ x = false ∧ (s.length ≤ 12 → par s = none) ∧ (12 < s.length → k = 4)) ∨ (k = 0 ∧ s.length ≤ 12 ∧ ∃ t, par s = some t ∧ x = nul t)
theorem rnull_say (s : List UInt8) (w : World) (h9 : s.length ≤ 9223372036854775807) :
    Calls Tryd.prog 14 #[S s] w fun e w' => (∃ x k, e = .returned (.tuple #[.bool x, errV k]) ∧ NulSays s x k) ∧ Below w.heap.size w w' :=
  (rnull_any s w h9).mono fun e w' h => by
    rcases h with ⟨⟨hne, rfl⟩ | ⟨t, h0, h12, ht, rfl⟩, hb⟩
    · refine ⟨⟨false, parsE s, rfl, .inl ⟨hne, rfl, fun h12 => ?_, fun h12 => parsE_long h12⟩⟩, hb⟩
      cases hp : par s with
      | none => rfl
      | some t => exact absurd (parsE_of h12 hp) hne
    · exact ⟨⟨nul t, 0, rfl, .inr ⟨rfl, h12, t, ht, rfl⟩⟩, hb⟩
end Go.Proofs.YtpimpfejaookeaaDoor
