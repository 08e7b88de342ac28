/- The law RegexNull: its walk. Condition: errors.errorType. -/
import Derived.Test.YtpimpfejaookeaaDoorRegA
namespace Go.Proofs.YtpimpfejaookeaaDoor
open Go.RowKit Go.Lib Go.Sort IntWalk
attribute [local go_sem] byte_at str_app

theorem say_alt {p q : List UInt8} {t u : Pt} {x : Bool} {k : Int} (hp : par p = some t) (hq : par q = some u) (h : NulSays (p ++ 124 :: q) x k) : (k = 0 ∧ x = (nul t || nul u)) ∨ (k ≠ 0 ∧ 11 < p.length + q.length) := by
  obtain ⟨v, hv, hn⟩ := par_alt hp hq
  rcases h with ⟨h0, _, h12, _⟩ | ⟨h0, _, t', ht', hx⟩
  · refine .inr ⟨h0, ?_⟩
    rcases Nat.lt_or_ge 11 (p.length + q.length) with h | h
    · exact h
    · have := h12 (by simp; omega)
      rw [this] at hv; cases hv
  · rw [ht'] at hv
    injection hv with hv
    subst hv
    exact .inl ⟨h0, by rw [hx, hn]⟩
theorem say_row {p q : List UInt8} {t u : Pt} {x : Bool} {k : Int} (hp : par p = some t) (hq : par q = some u) (h : NulSays (40 :: (p ++ 41 :: 40 :: (q ++ [41]))) x k) : (k = 0 ∧ x = (nul t && nul u)) ∨ (k ≠ 0 ∧ 8 < p.length + q.length) := by
  obtain ⟨v, hv, hn⟩ := par_row hp hq
  rcases h with ⟨h0, _, h12, _⟩ | ⟨h0, _, t', ht', hx⟩
  · refine .inr ⟨h0, ?_⟩
    rcases Nat.lt_or_ge 8 (p.length + q.length) with h | h
    · exact h
    · have := h12 (by simp; omega)
      rw [this] at hv; cases hv
  · rw [ht'] at hv
    injection hv with hv
    subst hv
    exact .inl ⟨h0, by rw [hx, hn]⟩
theorem say_star {p : List UInt8} {t : Pt} {x : Bool} {k : Int} (hp : par p = some t) (h : NulSays (40 :: (p ++ [41, 42])) x k) : (k = 0 ∧ x = true) ∨ (k ≠ 0 ∧ 9 < p.length) := by
  obtain ⟨v, hv, hn⟩ := par_star hp
  rcases h with ⟨h0, _, h12, _⟩ | ⟨h0, _, t', ht', hx⟩
  · refine .inr ⟨h0, ?_⟩
    rcases Nat.lt_or_ge 9 p.length with h | h
    · exact h
    · have := h12 (by simp; omega)
      rw [this] at hv; cases hv
  · rw [ht'] at hv
    injection hv with hv
    subst hv
    exact .inl ⟨h0, by rw [hx, hn]⟩
set_option maxRecDepth 100000 in
set_option maxHeartbeats 100000000 in
theorem regexNull_walk (w : World) (p q : List UInt8) (h9 : p.length ≤ 9223372036854775807) (h9q : q.length ≤ 9223372036854775807) (hg : HG w) :
    Calls Tryd.prog 4 #[S p, S q] w fun e w' => e = .returned (.bool true) ∧ Below w.heap.size w w' := by
  have HFA := Lib.hid (regFact_any w hg)
  have HP := Lib.hid (fun W => rnull_say p W h9)
  have HQ := Lib.hid (fun W => rnull_say q W h9q)
  have HL9 := Lib.hid h9; have HL9q := Lib.hid h9q
  clear hg h9 h9q
  go_enter Tryd.func4, Tryd.ntmps4
  go_wp2_with fail
  refine HFA.out.mono ?_
  rintro e w1 ⟨rfl, hb1⟩
  have HB1 := Lib.hid hb1
  clear hb1 HFA
  go_wp2_with fail
  refine (HP.out _).mono ?_
  rintro e w2 ⟨⟨x, k1, rfl, hsp⟩, hb2⟩
  have HB2 := Lib.hid (HB1.out.trans (hb2.mono HB1.out.size))
  clear hb2 HP
  go_wp2_with fail
  refine (HQ.out _).mono ?_
  rintro e w3 ⟨⟨y, k2, rfl, hsq⟩, hb3⟩
  have HB3 := Lib.hid (HB2.out.trans (hb3.mono HB2.out.size))
  clear hb3 HQ
  rcases hsp with ⟨hk1, rfl, _⟩ | ⟨rfl, hp12, t, hpt, rfl⟩
  · rw [err_ne hk1]
    clear hsq
    go_wp2_with fail
    go_ret
    exact ⟨rfl, HB3.out⟩
  rw [show errV 0 = .nilIface from rfl]
  rcases hsq with ⟨hk2, rfl, _⟩ | ⟨rfl, hq12, u, hqu, rfl⟩
  · rw [err_ne hk2]
    clear hpt
    generalize nul t = x at *
    go_wp2_with fail
    go_ret
    exact ⟨rfl, HB3.out⟩
  rw [show errV 0 = .nilIface from rfl]
  have HA := Lib.hid (fun W => rnull_say (p ++ 124 :: q) W (by simp; omega))
  have HBB := Lib.hid (fun W => rnull_say (40 :: (p ++ 41 :: 40 :: (q ++ [41]))) W (by simp; omega))
  have HC := Lib.hid (fun W => rnull_say (40 :: (p ++ [41, 42])) W (by simp; omega))
  have HS1 := Lib.hid (fun (x : Bool) (k : Int) => say_alt (x := x) (k := k) hpt hqu)
  have HS2 := Lib.hid (fun (x : Bool) (k : Int) => say_row (x := x) (k := k) hpt hqu)
  have HS3 := Lib.hid (fun (x : Bool) (k : Int) => say_star (x := x) (k := k) hpt)
  have g1 : ¬ 9223372036854775807 < p.length + 1 := by omega
  have g2 : ¬ 9223372036854775807 < (p ++ [124]).length + q.length := by simp; omega
  have g2' : ¬ 9223372036854775807 < p.length + 1 + q.length := by omega
  have g3 : ¬ 9223372036854775807 < 1 + p.length := by omega
  have g4 : ¬ 9223372036854775807 < (40 :: p).length + 2 := by simp; omega
  have g4' : ¬ 9223372036854775807 < p.length + 1 + 2 := by omega
  have g5 : ¬ 9223372036854775807 < (40 :: p ++ [41, 40]).length + q.length := by simp; omega
  have g5' : ¬ 9223372036854775807 < p.length + 1 + 2 + q.length := by omega
  have g5'' : ¬ 9223372036854775807 < p.length + 2 + 1 + q.length := by omega
  have g6 : ¬ 9223372036854775807 < (40 :: p ++ [41, 40] ++ q).length + 1 := by simp; omega
  have g6' : ¬ 9223372036854775807 < p.length + 1 + 2 + q.length + 1 := by omega
  have g8 : ¬ 9223372036854775807 < (p.length + 1) + 1 + 1 + q.length := by omega
  have g9 : ¬ 9223372036854775807 < (p.length + (q.length + 1 + 1)) + 1 + 1 := by omega
  have g7 : IntKind.i64.wrap ((p.length : Int) + (q.length : Int)) = (p.length : Int) + (q.length : Int) := i64_in _ (by omega)
  clear hpt hqu
  generalize nul t = x at *
  generalize nul u = y at *
  go_wp2_with fail
  refine (HA.out _).mono ?_
  rintro e w4 ⟨⟨a, ka, rfl, hsa⟩, hb4⟩
  have HB4 := Lib.hid (HB3.out.trans (hb4.mono HB3.out.size))
  have ha := HS1.out _ _ hsa
  clear hb4 HA HS1 hsa
  go_wp2_with fail
  refine (HBB.out _).mono ?_
  rintro e w5 ⟨⟨b, kb, rfl, hsb⟩, hb5⟩
  have HB5 := Lib.hid (HB4.out.trans (hb5.mono HB4.out.size))
  have hb := HS2.out _ _ hsb
  clear hb5 HBB HS2 hsb
  go_wp2_with fail
  refine (HC.out _).mono ?_
  rintro e w6 ⟨⟨c, kc, rfl, hsc⟩, hb6⟩
  have HB6 := Lib.hid (HB5.out.trans (hb6.mono HB5.out.size))
  have hc := HS3.out _ _ hsc
  clear hb6 HC HS3 hsc g1 g2 g2' g3 g4 g4' g5 g5' g5'' g6 g6'
  rcases ha with ⟨rfl, rfl⟩ | ⟨hka, ha⟩
  · rw [show errV 0 = .nilIface from rfl]
    rcases hb with ⟨rfl, rfl⟩ | ⟨hkb, hb⟩
    · rw [show errV 0 = .nilIface from rfl]
      rcases hc with ⟨rfl, rfl⟩ | ⟨hkc, hc⟩
      · rw [show errV 0 = .nilIface from rfl]
        cases x <;> (go_wp2_with fail; go_ret; exact ⟨rfl, HB6.out⟩)
      · rw [err_ne hkc]
        have d3 : (9 : Int) < (p.length : Int) := by omega
        clear hc hkc
        cases x <;> (go_wp2_with fail; go_ret; exact ⟨rfl, HB6.out⟩)
    · rw [err_ne hkb]
      have d2 : (8 : Int) < (p.length : Int) + (q.length : Int) := by omega
      clear hb hkb
      rcases hc with ⟨rfl, rfl⟩ | ⟨hkc, hc⟩
      · rw [show errV 0 = .nilIface from rfl]
        cases x <;> (go_wp2_with fail; go_ret; exact ⟨rfl, HB6.out⟩)
      · rw [err_ne hkc]
        have d3 : (9 : Int) < (p.length : Int) := by omega
        clear hc hkc
        cases x <;> (go_wp2_with fail; go_ret; exact ⟨rfl, HB6.out⟩)
  · rw [err_ne hka]
    have d1 : (11 : Int) < (p.length : Int) + (q.length : Int) := by omega
    clear hka
    rcases hb with ⟨rfl, rfl⟩ | ⟨hkb, hb⟩
    · rw [show errV 0 = .nilIface from rfl]
      rcases hc with ⟨rfl, rfl⟩ | ⟨hkc, hc⟩
      · rw [show errV 0 = .nilIface from rfl]
        cases x <;> (go_wp2_with fail; go_ret; exact ⟨rfl, HB6.out⟩)
      · rw [err_ne hkc]
        have d3 : (9 : Int) < (p.length : Int) := by omega
        clear hc hkc
        cases x <;> (go_wp2_with fail; go_ret; exact ⟨rfl, HB6.out⟩)
    · rw [err_ne hkb]
      have d2 : (8 : Int) < (p.length : Int) + (q.length : Int) := by omega
      clear hb hkb
      rcases hc with ⟨rfl, rfl⟩ | ⟨hkc, hc⟩
      · rw [show errV 0 = .nilIface from rfl]
        cases x <;> (go_wp2_with fail; go_ret; exact ⟨rfl, HB6.out⟩)
      · rw [err_ne hkc]
        have d3 : (9 : Int) < (p.length : Int) := by omega
        clear hc hkc
        cases x <;> (go_wp2_with fail; go_ret; exact ⟨rfl, HB6.out⟩)
end Go.Proofs.YtpimpfejaookeaaDoor
