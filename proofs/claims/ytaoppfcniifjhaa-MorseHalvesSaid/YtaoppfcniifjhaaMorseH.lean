/- The walk over the law of the halves. -/
import Derived.Test.YtaoppfcniifjhaaMorseL
namespace Go.Proofs.Ytaoppfcniifjhaa
open Go.RowKit MorseM IntWalk

theorem pwGo_yes {f n p : Nat} (h : p < n) : pwGo (f + 1) n p = pwGo f n (2 * p) := by simp [pwGo, h]
theorem pwGo_no {f n p : Nat} (h : ¬ p < n) : pwGo f n p = p := by cases f <;> simp [pwGo, h]

theorem sign_01 (i : Nat) : sign i = 48 ∨ sign i = 49 := by unfold sign; split <;> simp
attribute [local go_sem] byte_at str_app

set_option maxRecDepth 100000 in
set_option maxHeartbeats 1000000 in
theorem morseHalves_walk (n : Int) (w : World) :
    Calls Try.prog 4 #[.int .i64 n] w fun e w' => e = .returned (.bool true) ∧ Below w.heap.size w w' := by
  go_enter Try.func4, Try.ntmps4
  go_wp2_with fail
  refine (fact_any w).mono ?_
  rintro e w1 ⟨rfl, hb1⟩
  have HB1 := Lib.hid hb1; clear hb1
  go_wp2_with fail
  by_cases hn : 0 ≤ n ∧ n ≤ 100
  · refine (in_yes _ _ _ _ hn).mono ?_
    rintro e w' ⟨rfl, rfl⟩
    obtain ⟨n, rfl⟩ : ∃ m : Nat, n = (m : Int) := ⟨n.toNat, by omega⟩
    have hn2 : n ≤ 100 := by omega
    clear hn
    go_wp2_with fail
    refine (word_ok n w1 (by omega)).mono ?_
    rintro e w2 ⟨rfl, hb2⟩
    have HB2 := Lib.hid (HB1.out.trans (hb2.mono HB1.out.size)); clear hb2
    go_wp2_with fail
    refine (word_lit _ (2 * n) (by omega) w2 (by omega)).mono ?_
    rintro e w3 ⟨rfl, hb3⟩
    have HB3 := Lib.hid (HB2.out.trans (hb3.mono HB2.out.size)); clear hb3
    have hl1 := word_len n
    have hl2 := word_len (2 * n)
    have hb1 : ∀ i, i < n → bu (word n) i = sign i := fun i h => bu_word h
    have hb2 : ∀ i, i < 2 * n → bu (word (2 * n)) i = sign i := fun i h => bu_word h
    generalize word n = X at *
    generalize word (2 * n) = Y at *
    have HX := Lib.hid hb1; clear hb1
    have HY := Lib.hid hb2; clear hb2
    have hl2' : (Y.length : Int) = 2 * (n : Int) := by omega
    go_wp2_with fail
    have HL2 := Lib.hid hl2; clear hl2
    have HL2' := Lib.hid hl2'; clear hl2'
    have HL1 := Lib.hid hl1; clear hl1
    go_loopg [8] 8 (fun f pv wr => ∃ p : Nat, pv = .int .i64 (p : Int) ∧ 1 ≤ p ∧ 128 ≤ p * 2 ^ f ∧ p ≤ 256 ∧ pwGo f n p = pw n ∧ wr = w3)
    case atStart => exact ⟨1, rfl, by omega, by omega, by omega, rfl, rfl⟩
    case round =>
      obtain ⟨p, rfl, hp1, hp2, hp3, hpw, rfl⟩ := hrel
      by_cases hlt : p < n
      · obtain ⟨f, rfl⟩ : ∃ f, gk = f + 1 := ⟨gk - 1, by
          cases gk with
          | zero => simp at hp2; omega
          | succ g => rfl⟩
        rw [pwGo_yes hlt] at hpw
        have HPW := Lib.hid hpw; clear hpw
        have hp2' : 128 ≤ 2 * p * 2 ^ f := by rw [Nat.pow_succ] at hp2; rw [Nat.mul_comm 2 p, Nat.mul_assoc, Nat.mul_comm 2]; exact hp2
        go_wp2_with fail
        go_roundg f
        case measure => omega
        case rel => exact ⟨2 * p, by simp, by omega, hp2', by omega, HPW.out, rfl⟩
      · rw [pwGo_no hlt] at hpw
        have HPW := Lib.hid hpw; clear hpw hp2
        go_wp2_with fail
        go_loopg [9] n (fun f iv wi => ∃ i : Nat, i + f = n ∧ iv = .int .i64 (i : Int) ∧ ∃ q, wi = wr.drewN q)
        case atStart => exact ⟨0, by omega, rfl, 0, rfl⟩
        case round =>
          obtain ⟨i, hif, rfl, q, rfl⟩ := hrel
          by_cases hi : i < n
          · obtain ⟨f, rfl⟩ : ∃ f, gk = f + 1 := ⟨gk - 1, by omega⟩
            have hdd : ∀ a b, (wr.drewN a).drewN b = wr.drewN (a + b) := fun a b => by simp [World.drewN, Nat.add_assoc]
            have HDD := Lib.hid hdd; clear hdd
            have hs := sign_01 i
            obtain ⟨h1, h2, h3⟩ := halves i (by omega)
            have e1 := HY.out (2 * i) (by omega)
            have e2 := HX.out i hi
            have e3 := HY.out (2 * i + 1) (by omega)
            have e4 := HY.out i (by omega)
            have e5 := HY.out (n + i) (by omega)
            have h5 : pw n = n → sign (n + i) ≠ sign i := fun h => halves2 n (by omega) h i hi
            have h6 := sign_01 (n + i)
            rw [h1] at e1
            have HE5 := Lib.hid e5; clear e5
            have HPN : Hid (p = n → bu Y (n + i) ≠ sign i) := Lib.hid (fun h => by rw [HE5.out]; exact h5 (by rw [← HPW.out]; exact h))
            have hE6 : bu Y (n + i) = 48 ∨ bu Y (n + i) = 49 := by rw [HE5.out]; exact h6
            clear h1 h5 h6 HE5
            have f1 : IntKind.i64.wrap (2 * (i : Int)) = ((2 * i : Nat) : Int) := (i64_in _ (by omega)).trans (by simp)
            have f2 : IntKind.i64.wrap (((2 * i : Nat) : Int) + 1) = ((2 * i + 1 : Nat) : Int) := (i64_in _ (by omega)).trans (by simp)
            have f3 : IntKind.i64.wrap ((n : Int) + (i : Int)) = ((n + i : Nat) : Int) := (i64_in _ (by omega)).trans (by simp)
            have g1 : 2 * i < Y.length := by rw [HL2.out]; omega
            have g2 : 2 * i + 1 < Y.length := by rw [HL2.out]; omega
            have g3 : i < X.length := by rw [HL1.out]; omega
            have g4 : i < Y.length := by rw [HL2.out]; omega
            have g5 : n + i < Y.length := by rw [HL2.out]; omega
            have HF1 := Lib.hid f1; have HF2 := Lib.hid f2; have HF3 := Lib.hid f3
            clear f1 f2 f3
            rcases hs with hs | hs
            · rw [hs] at e1 e2 h2 HPN e4
              rw [← e3] at h2 h3
              clear e3
              have e3 := h3.resolve_left h2
              clear h2 h3 hs
              by_cases hpn : p = n
              · have e5 := hE6.resolve_left (HPN.out hpn)
                have d1 : ((p : Int) == (n : Int)) = true := by simp [hpn]
                clear hE6 HPN
                go_wp2_with fail
                have f1 := HF1.out; have f2 := HF2.out
                go_quiet (fail)
                rw [HDD.out]
                generalize q + nq = q1
                clear f1 f2
                go_wp2_with fail
                have f3 := HF3.out
                clear e1 e3
                go_quiet (fail)
                rw [HDD.out]
                generalize q1 + nq = q2
                clear f3
                go_wp2_with fail
                go_roundg f
                case measure => omega
                case rel => exact ⟨i + 1, by omega, by simp, q2, rfl⟩
              · have d1 : ((p : Int) == (n : Int)) = false := by simp; omega
                clear hE6 HPN
                go_wp2_with fail
                have f1 := HF1.out; have f2 := HF2.out
                go_quiet (fail)
                rw [HDD.out]
                generalize q + nq = q1
                clear f1 f2
                go_wp2_with fail
                have f3 := HF3.out
                go_quiet (fail)
                rw [HDD.out]
                generalize q1 + nq = q2
                clear f3
                go_wp2_with fail
                go_roundg f
                case measure => omega
                case rel => exact ⟨i + 1, by omega, by simp, q2, rfl⟩
            · rw [hs] at e1 e2 h2 HPN e4
              rw [← e3] at h2 h3
              clear e3
              have e3 := h3.resolve_right h2
              clear h2 h3 hs
              by_cases hpn : p = n
              · have e5 := hE6.resolve_right (HPN.out hpn)
                have d1 : ((p : Int) == (n : Int)) = true := by simp [hpn]
                clear hE6 HPN
                go_wp2_with fail
                have f1 := HF1.out; have f2 := HF2.out
                go_quiet (fail)
                rw [HDD.out]
                generalize q + nq = q1
                clear f1 f2
                go_wp2_with fail
                have f3 := HF3.out
                clear e1 e3
                go_quiet (fail)
                rw [HDD.out]
                generalize q1 + nq = q2
                clear f3
                go_wp2_with fail
                go_roundg f
                case measure => omega
                case rel => exact ⟨i + 1, by omega, by simp, q2, rfl⟩
              · have d1 : ((p : Int) == (n : Int)) = false := by simp; omega
                clear hE6 HPN
                go_wp2_with fail
                have f1 := HF1.out; have f2 := HF2.out
                go_quiet (fail)
                rw [HDD.out]
                generalize q + nq = q1
                clear f1 f2
                go_wp2_with fail
                have f3 := HF3.out
                go_quiet (fail)
                rw [HDD.out]
                generalize q1 + nq = q2
                clear f3
                go_wp2_with fail
                go_roundg f
                case measure => omega
                case rel => exact ⟨i + 1, by omega, by simp, q2, rfl⟩
          · go_wp2_with fail
            go_ret
            exact ⟨rfl, below_drewN HB3.out q⟩
  · refine (in_no _ _ _ _ hn).mono ?_
    rintro e w' ⟨rfl, rfl⟩
    clear hn
    go_wp2_with fail
    go_ret
    exact ⟨rfl, HB1.out⟩
end Go.Proofs.Ytaoppfcniifjhaa
