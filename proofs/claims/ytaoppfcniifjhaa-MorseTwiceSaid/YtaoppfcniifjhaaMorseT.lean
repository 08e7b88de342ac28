/- The walk over the law of what stands twice. -/
import Derived.Test.YtaoppfcniifjhaaMorseH
namespace Go.Proofs.Ytaoppfcniifjhaa
open Go.RowKit MorseM IntWalk

/-- Where there is such a thing, there is a first one, and a shortest one there. -/
theorem exists_found {d : Nat} {l : List UInt8} {j k : Nat} (hj : j < l.length) (h1 : 1 ≤ k) (h3 : 2 * k + d ≤ (l.drop j).length) (hr : rep d (l.drop j) k = true) : ∃ a b, FoundAt d l a b := by
  have key : ∀ n, (∃ i b, i < n ∧ FoundAt d l i b) ∨ ∀ i, i < n → i < l.length → noRep d (l.drop i) := by
    intro n
    induction n with
    | zero => exact .inr fun i hi => absurd hi (by omega)
    | succ n ih =>
      rcases ih with ⟨i, b, hi, hf⟩ | ih
      · exact .inl ⟨i, b, by omega, hf⟩
      · by_cases hn : n < l.length
        · have key2 : ∀ m, (∃ b, b < m ∧ 1 ≤ b ∧ 2 * b + d ≤ (l.drop n).length ∧ rep d (l.drop n) b = true ∧ noneTo d (l.drop n) b) ∨ noneTo d (l.drop n) m := by
            intro m
            induction m with
            | zero => exact .inr fun b _ hb => absurd hb (by omega)
            | succ m ihm =>
              rcases ihm with ⟨b, hb, h⟩ | ihm
              · exact .inl ⟨b, by omega, h⟩
              · by_cases hm : 1 ≤ m ∧ 2 * m + d ≤ (l.drop n).length ∧ rep d (l.drop n) m = true
                · exact .inl ⟨m, by omega, hm.1, hm.2.1, hm.2.2, ihm⟩
                · refine .inr fun b hb1 hb2 hb3 => ?_
                  by_cases hbm : b = m
                  · subst hbm
                    cases hrb : rep d (l.drop n) b with
                    | false => rfl
                    | true => exact (hm ⟨hb1, hb3, hrb⟩).elim
                  · exact ihm b hb1 (by omega) hb3
          rcases key2 (l.length + 1) with ⟨b, _, hb1, hb2, hb3, hb4⟩ | hk2
          · exact .inl ⟨n, b, by omega, hn, hb1, hb2, hb3, hb4, fun i hi => ih i hi (by omega)⟩
          · refine .inr fun i hi hil => ?_
            by_cases hin : i = n
            · subst hin
              exact noRep_of hk2 (by rw [List.length_drop]; omega)
            · exact ih i (by omega) hil
        · exact .inr fun i hi hil => ih i (by omega) hil
  rcases key l.length with ⟨i, b, _, hf⟩ | h
  · exact ⟨i, b, hf⟩
  · have := h j hj hj k h1 h3
    rw [hr] at this; cases this
theorem found_least {l : List UInt8} {a b i k : Nat} (h : FoundAt 0 l a b) (hk : 1 ≤ k) (hl : i + 2 * k ≤ l.length) (hr : rep 0 (l.drop i) k = true) : a < i ∨ (a = i ∧ b ≤ k) := by
  rcases Nat.lt_trichotomy a i with hlt | e | hlt
  · exact .inl hlt
  · subst e
    refine .inr ⟨rfl, ?_⟩
    rcases Nat.lt_or_ge k b with h1 | h1
    · have := h.2.2.2.2.1 k hk h1 (by rw [List.length_drop]; omega)
      rw [hr] at this; cases this
    · exact h1
  · have := h.2.2.2.2.2 i hlt k hk (by rw [List.length_drop]; omega)
    rw [hr] at this; cases this
theorem none_least {l : List UInt8} {i k : Nat} (h : NoneAt 0 l) (hk : 1 ≤ k) (hl : i + 2 * k ≤ l.length) : rep 0 (l.drop i) k = false :=
  h i (by omega) k hk (by rw [List.length_drop]; omega)
theorem rep_cut {l : List UInt8} {a b : Nat} (h : rep 0 (l.drop a) b = true) : (l.drop (a + b)).take b = (l.drop a).take b := by
  unfold rep at h
  rw [beq_iff_eq, List.drop_drop] at h
  exact h.symm
theorem str_cuts (l : List UInt8) (a b : Nat) : (ByteArray.mk l.toArray).extract a (a + b) = ByteArray.mk ((l.drop a).take b).toArray ∧ (ByteArray.mk l.toArray).extract (a + b) (a + 2 * b) = ByteArray.mk ((l.drop (a + b)).take b).toArray := by
  constructor
  · rw [str_mid, show a + b - a = b by omega]
  · rw [str_mid, show a + 2 * b - (a + b) = b by omega]

set_option maxRecDepth 100000 in
set_option maxHeartbeats 1000000 in
theorem morseTwice_walk (l : List UInt8) (i k : Int) (w : World) (hl : l.length ≤ 9223372036854775807) :
    Calls Try.prog 5 #[S l, .int .i64 i, .int .i64 k] w fun e w' => e = .returned (.bool true) ∧ Below w.heap.size w w' := by
  go_enter Try.func5, Try.ntmps5
  go_wp2_with fail
  refine (fact_any w).mono ?_
  rintro e w1 ⟨rfl, hb1⟩
  have HB1 := Lib.hid hb1; clear hb1
  go_wp2_with fail
  by_cases h2 : 200 < l.length
  · refine (twice_no l w1 h2).mono ?_
    rintro e w2 ⟨rfl, hb2⟩
    have HB2 := Lib.hid (HB1.out.trans (hb2.mono HB1.out.size)); clear hb2
    clear h2
    go_wp2_with fail
    go_ret
    exact ⟨rfl, HB2.out⟩
  have h2 : l.length ≤ 200 := by omega
  by_cases hT : ∃ a b, FoundAt 0 l a b
  · obtain ⟨a, b, hab⟩ := hT
    refine (twice_known l w1 h2 a b hab).mono ?_
    rintro e w2 ⟨rfl, hb2⟩
    have HB2 := Lib.hid (HB1.out.trans (hb2.mono HB1.out.size)); clear hb2
    have HAB := Lib.hid hab
    have ha1 := hab.1
    have ha2 := hab.2.1
    have ha3 := hab.2.2.1
    rw [List.length_drop] at ha3
    have hcut := rep_cut hab.2.2.2.1
    obtain ⟨c1, c2⟩ := str_cuts l a b
    rw [hcut] at c2
    have HC1 := Lib.hid c1; have HC2 := Lib.hid c2
    have f1 : IntKind.i64.wrap (2 * (b : Int)) = 2 * (b : Int) := i64_in _ (by omega)
    have f2 : IntKind.i64.wrap ((a : Int) + 2 * (b : Int)) = (a : Int) + 2 * (b : Int) := i64_in _ (by omega)
    have f3 : IntKind.i64.wrap ((a : Int) + (b : Int)) = (a : Int) + (b : Int) := i64_in _ (by omega)
    have f4 : ((a : Int) + 2 * (b : Int)).toNat = a + 2 * b := by omega
    have f5 : ((a : Int) + (b : Int)).toNat = a + b := by omega
    have g1 : decide ((l.length : Int) < (a : Int) + 2 * (b : Int)) = false := decide_eq_false (by omega)
    have g2 : (a : Int) + 2 * (b : Int) ≤ (l.length : Int) := by omega
    have g3 : (a : Int) + (b : Int) ≤ (l.length : Int) := by omega
    have g4 : (a : Int) + (b : Int) ≤ (a : Int) + 2 * (b : Int) := by omega
    have g5 : (0 : Int) ≤ (a : Int) + (b : Int) := by omega
    have g6 : (0 : Int) ≤ (a : Int) + 2 * (b : Int) := by omega
    have gin : (1 : Int) ≤ (b : Int) ∧ (b : Int) ≤ (l.length : Int) := by omega
    have HF1 := Lib.hid f1; have HF2 := Lib.hid f2; have HF3 := Lib.hid f3; have HG1 := Lib.hid g1; have HF4 := Lib.hid f4; have HF5 := Lib.hid f5
    have HIN := Lib.hid gin
    clear f1 f2 f3 f4 f5 g1 hcut c1 c2 hab gin
    go_wp2_with fail
    have hz : decide ((a : Int) < 0) = false := decide_eq_false (by omega)
    have hz0 : decide ((0 : Int) ≤ (a : Int)) = true := decide_eq_true (by omega)
    by_cases hO : ∃ c d, FoundAt 1 l c d
    focus
      obtain ⟨c, d, hcd⟩ := hO
      refine (over_known l w2 h2 c d hcd).mono ?_
      rintro e w3 ⟨rfl, hb3⟩
      have HB3 := Lib.hid (HB2.out.trans (hb3.mono HB2.out.size)); clear hb3
      have hac := over_le hcd HAB.out
      have hd : decide (c < a) = false := decide_eq_false (by omega)
      have hc0 : decide ((0 : Int) ≤ (c : Int)) = true := decide_eq_true (by omega)
      clear hcd hac
      go_wp2_with fail
    rotate_left
    focus
      refine (over_unknown l w2 h2 (fun j hj k h1 h3 => by
        cases hr : rep 1 (l.drop j) k with
        | false => rfl
        | true => exact (hO (exists_found hj h1 h3 hr)).elim)).mono ?_
      rintro e w3 ⟨rfl, hb3⟩
      have HB3 := Lib.hid (HB2.out.trans (hb3.mono HB2.out.size)); clear hb3
      clear hO
      go_wp2_with fail
    all_goals
      have f1 := HF1.out; have f2 := HF2.out; have f3 := HF3.out; have f4 := HF4.out; have f5 := HF5.out; have g1 := HG1.out; have c1 := HC1.out; have c2 := HC2.out
      go_quiet ((go_at_call 8; exact Calls.quiet_of_same ((in_yes _ _ _ _ HIN.out).mono fun _ _ ⟨h, h'⟩ => ⟨h, h'.symm⟩)))
      clear f1 f2 f3 f4 f5 g1 c1 c2
      have HQ := Lib.hid (show Below w.heap.size w (w3.drewN nq) from below_drewN HB3.out nq)
      clear HB3
      generalize w3.drewN nq = w4 at *
      go_wp2_with fail
      by_cases ci : 0 ≤ i ∧ i ≤ (l.length : Int)
      · refine (in_yes _ _ _ _ ci).mono ?_
        rintro e w' ⟨rfl, rfl⟩
        go_wp2_with fail
        by_cases ck : 1 ≤ k ∧ k ≤ ((l.length : Int) - i) / 2
        · refine (in_yes _ _ _ _ ck).mono ?_
          rintro e w' ⟨rfl, rfl⟩
          go_wp2_with fail
          obtain ⟨i, rfl⟩ : ∃ m : Nat, i = (m : Int) := ⟨i.toNat, by omega⟩
          obtain ⟨k, rfl⟩ : ∃ m : Nat, k = (m : Int) := ⟨k.toNat, by omega⟩
          obtain ⟨d1, d2⟩ := str_cuts l i k
          have hle : i + 2 * k ≤ l.length := by omega
          have f1 : IntKind.i64.wrap (2 * (k : Int)) = 2 * (k : Int) := i64_in _ (by omega)
          have f2 : IntKind.i64.wrap ((i : Int) + 2 * (k : Int)) = (i : Int) + 2 * (k : Int) := i64_in _ (by omega)
          have f3 : IntKind.i64.wrap ((i : Int) + (k : Int)) = (i : Int) + (k : Int) := i64_in _ (by omega)
          have f4 : ((i : Int) + 2 * (k : Int)).toNat = i + 2 * k := by omega
          have f5 : ((i : Int) + (k : Int)).toNat = i + k := by omega
          have p2 : (i : Int) + 2 * (k : Int) ≤ (l.length : Int) := by omega
          have p3 : (i : Int) + (k : Int) ≤ (l.length : Int) := by omega
          have p4 : (i : Int) + (k : Int) ≤ (i : Int) + 2 * (k : Int) := by omega
          have p5 : (0 : Int) ≤ (i : Int) + (k : Int) := by omega
          have p6 : (0 : Int) ≤ (i : Int) + 2 * (k : Int) := by omega
          have hk1 : 1 ≤ k := by omega
          have p7 : (i : Int) ≤ (i : Int) + (k : Int) := by omega
          clear ci ck
          by_cases hr : rep 0 (l.drop i) k = true
          · rw [rep_cut hr] at d2
            have hfl := found_least HAB.out hk1 hle hr
            go_quiet (fail)
            clear f1 f2 f3 f4 f5 d1 d2 hr hle
            rcases hfl with hlt | ⟨rfl, hbk⟩
            · have t1 : decide (a < i) = true := decide_eq_true hlt
              clear hlt
              go_wp2_with fail
              go_ret
              exact ⟨rfl, below_drewN HQ.out nq⟩
            · have t1 : decide (a < a) = false := decide_eq_false (by omega)
              have t2 : decide (b ≤ k) = true := decide_eq_true hbk
              clear hbk
              go_wp2_with fail
              go_ret
              exact ⟨rfl, below_drewN HQ.out nq⟩
          · have hne : ((l.drop i).take k == (l.drop (i + k)).take k) = false := by
              have : rep 0 (l.drop i) k = false := by simpa using hr
              unfold rep at this
              rw [List.drop_drop] at this
              exact this
            have hne2 : ((l.drop i).take k != (l.drop (i + k)).take k) = true := by unfold bne; rw [hne]; rfl
            go_quiet (fail)
            clear f1 f2 f3 f4 f5 d1 d2
            go_wp2_with fail
            go_ret
            exact ⟨rfl, below_drewN HQ.out nq⟩
        · refine (in_no _ _ _ _ ck).mono ?_
          rintro e w' ⟨rfl, rfl⟩
          clear ci ck
          go_wp2_with fail
          go_ret
          exact ⟨rfl, HQ.out⟩
      · refine (in_no _ _ _ _ ci).mono ?_
        rintro e w' ⟨rfl, rfl⟩
        clear ci
        go_wp2_with fail
        go_ret
        exact ⟨rfl, HQ.out⟩
  · have hT : NoneAt 0 l := fun j hj k h1 h3 => by
      cases hr : rep 0 (l.drop j) k with
      | false => rfl
      | true => exact (hT (exists_found hj h1 h3 hr)).elim
    refine (twice_unknown l w1 h2 hT).mono ?_
    rintro e w2 ⟨rfl, hb2⟩
    have HB2 := Lib.hid (HB1.out.trans (hb2.mono HB1.out.size)); clear hb2
    have hT1 : NoneAt 1 l := fun j hj k h1 h3 => by
      cases hr : rep 1 (l.drop j) k with
      | false => rfl
      | true =>
        obtain ⟨c, d, hcd⟩ := exists_found hj h1 h3 hr
        exact (over_none hcd hT).elim
    go_wp2_with fail
    refine (over_unknown l w2 h2 hT1).mono ?_
    rintro e w3 ⟨rfl, hb3⟩
    have HB3 := Lib.hid (HB2.out.trans (hb3.mono HB2.out.size)); clear hb3 hT1
    go_wp2_with fail
    go_quiet (fail)
    have HQ := Lib.hid (show Below w.heap.size w (w3.drewN nq) from below_drewN HB3.out nq)
    clear HB3
    generalize w3.drewN nq = w4 at *
    go_wp2_with fail
    by_cases ci : 0 ≤ i ∧ i ≤ (l.length : Int)
    · refine (in_yes _ _ _ _ ci).mono ?_
      rintro e w' ⟨rfl, rfl⟩
      go_wp2_with fail
      by_cases ck : 1 ≤ k ∧ k ≤ ((l.length : Int) - i) / 2
      · refine (in_yes _ _ _ _ ck).mono ?_
        rintro e w' ⟨rfl, rfl⟩
        go_wp2_with fail
        obtain ⟨i, rfl⟩ : ∃ m : Nat, i = (m : Int) := ⟨i.toNat, by omega⟩
        obtain ⟨k, rfl⟩ : ∃ m : Nat, k = (m : Int) := ⟨k.toNat, by omega⟩
        obtain ⟨d1, d2⟩ := str_cuts l i k
        have hle : i + 2 * k ≤ l.length := by omega
        have f1 : IntKind.i64.wrap (2 * (k : Int)) = 2 * (k : Int) := i64_in _ (by omega)
        have f2 : IntKind.i64.wrap ((i : Int) + 2 * (k : Int)) = (i : Int) + 2 * (k : Int) := i64_in _ (by omega)
        have f3 : IntKind.i64.wrap ((i : Int) + (k : Int)) = (i : Int) + (k : Int) := i64_in _ (by omega)
        have f4 : ((i : Int) + 2 * (k : Int)).toNat = i + 2 * k := by omega
        have f5 : ((i : Int) + (k : Int)).toNat = i + k := by omega
        have p2 : (i : Int) + 2 * (k : Int) ≤ (l.length : Int) := by omega
        have p3 : (i : Int) + (k : Int) ≤ (l.length : Int) := by omega
        have p4 : (i : Int) + (k : Int) ≤ (i : Int) + 2 * (k : Int) := by omega
        have p5 : (0 : Int) ≤ (i : Int) + (k : Int) := by omega
        have p6 : (0 : Int) ≤ (i : Int) + 2 * (k : Int) := by omega
        have hk1 : 1 ≤ k := by omega
        have p7 : (i : Int) ≤ (i : Int) + (k : Int) := by omega
        clear ci ck
        by_cases hr : rep 0 (l.drop i) k = true
        · rw [rep_cut hr] at d2
          have hfl := none_least hT hk1 hle
          rw [hr] at hfl
          cases hfl
        · have hne : ((l.drop i).take k == (l.drop (i + k)).take k) = false := by
            have : rep 0 (l.drop i) k = false := by simpa using hr
            unfold rep at this
            rw [List.drop_drop] at this
            exact this
          have hne2 : ((l.drop i).take k != (l.drop (i + k)).take k) = true := by unfold bne; rw [hne]; rfl
          go_quiet (fail)
          clear f1 f2 f3 f4 f5 d1 d2
          go_wp2_with fail
          go_ret
          exact ⟨rfl, below_drewN HQ.out nq⟩
      · refine (in_no _ _ _ _ ck).mono ?_
        rintro e w' ⟨rfl, rfl⟩
        clear ci ck
        go_wp2_with fail
        go_ret
        exact ⟨rfl, HQ.out⟩
    · refine (in_no _ _ _ _ ci).mono ?_
      rintro e w' ⟨rfl, rfl⟩
      clear ci
      go_wp2_with fail
      go_ret
      exact ⟨rfl, HQ.out⟩
end Go.Proofs.Ytaoppfcniifjhaa
