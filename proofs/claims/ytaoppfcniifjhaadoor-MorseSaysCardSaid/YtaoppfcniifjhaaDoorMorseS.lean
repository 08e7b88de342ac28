/- The walk over the document's answer for what stands twice, and over the law MorseSays. Condition of the last: errors.errorType reads as the handle of the type error. -/
import Derived.Test.YtaoppfcniifjhaaDoorMorseR
import Derived.Test.YtaoppfcniifjhaaDoorAs
namespace Go.Proofs.YtaoppfcniifjhaaDoor
open Go.RowKit MorseM IntWalk
attribute [local go_sem] byte_at str_app

theorem rep_cut' {l : List UInt8} {a b : Nat} (h : rep 0 (l.drop a) b = true) : (l.drop (a + b)).take b = (l.drop a).take b := by
  unfold rep at h
  rw [beq_iff_eq, List.drop_drop] at h
  exact h.symm
theorem rep_ncut {l : List UInt8} {a b : Nat} (h : rep 0 (l.drop a) b = false) : ((l.drop a).take b == (l.drop (a + b)).take b) = false := by
  unfold rep at h
  rw [List.drop_drop] at h
  exact h
theorem str_cuts' (l : List UInt8) (a b : Nat) : (ByteArray.mk l.toArray).extract a (a + b) = ByteArray.mk ((l.drop a).take b).toArray ∧ (ByteArray.mk l.toArray).extract (a + b) (a + 2 * b) = ByteArray.mk ((l.drop (a + b)).take b).toArray := by
  constructor
  · rw [str_mid, show a + b - a = b by omega]
  · rw [str_mid, show a + 2 * b - (a + b) = b by omega]
/-- What the document's Twice says. -/
def RSays (d : Nat) (l : List UInt8) (w : World) (e : Ending) (w' : World) : Prop :=
  ((∃ i k : Nat, FoundAt d l i k ∧ e = .returned (.tuple #[.int .i64 i, .int .i64 k])) ∨ (NoneAt d l ∧ e = .returned (.tuple #[.int .i64 (-1), .int .i64 0]))) ∧ ∃ q, w' = w.drewN q

set_option maxRecDepth 100000 in
set_option maxHeartbeats 1000000 in
theorem refTwice0 (l : List UInt8) (w : World) (hl : l.length ≤ 200) :
    Calls Tryd.prog 8 #[S l, .bool false] w (RSays 0 l w) := by
  go_enter Tryd.func8, Tryd.ntmps8
  go_wp2_with fail
  go_loopg [6] l.length (fun f iv wr => ∃ i : Nat, i + f = l.length ∧ iv = .int .i64 (i : Int) ∧ (∀ j, j < i → noRep 0 (l.drop j)) ∧ ∃ q, wr = w.drewN q)
  case atStart => exact ⟨0, by omega, rfl, fun j hj => absurd hj (by omega), 0, rfl⟩
  case round =>
    obtain ⟨i, hif, rfl, hpre, q, rfl⟩ := hrel
    by_cases hi : i < l.length
    · obtain ⟨f', rfl⟩ : ∃ f, gk = f + 1 := ⟨gk - 1, by omega⟩
      go_wp2_with fail
      go_loopg [7] 201 (fun f kv wi => ∃ k : Nat, k + f = 202 ∧ 1 ≤ k ∧ kv = .int .i64 (k : Int) ∧ noneTo 0 (l.drop i) k ∧ ∃ q, wi = w.drewN q)
      case atStart => exact ⟨1, by omega, by omega, rfl, noneTo_one _ _, q, rfl⟩
      case round =>
        clear q
        obtain ⟨k, hkf, hk1, rfl, hno, q, rfl⟩ := hrel
        by_cases hle : i + 2 * k ≤ l.length
        · obtain ⟨f, rfl⟩ : ∃ f, gk = f + 1 := ⟨gk - 1, by omega⟩
          obtain ⟨d1, d2⟩ := str_cuts' l i k
          have f1 : IntKind.i64.wrap (2 * (k : Int)) = 2 * (k : Int) := i64_in _ (by omega)
          have f2 : IntKind.i64.wrap ((i : Int) + 2 * (k : Int)) = (i : Int) + 2 * (k : Int) := i64_in _ (by omega)
          have f3 : IntKind.i64.wrap ((i : Int) + (k : Int)) = (i : Int) + (k : Int) := i64_in _ (by omega)
          have f4 : ((i : Int) + 2 * (k : Int)).toNat = i + 2 * k := by omega
          have f5 : ((i : Int) + (k : Int)).toNat = i + k := by omega
          have p2 : (i : Int) + 2 * (k : Int) ≤ (l.length : Int) := by omega
          have p3 : (i : Int) + (k : Int) ≤ (l.length : Int) := by omega
          have p4 : (i : Int) + (k : Int) ≤ (i : Int) + 2 * (k : Int) := by omega
          have p5 : (0 : Int) ≤ (i : Int) + (k : Int) := by omega
          have p6 : (0 : Int) ≤ (i : Int) + 2 * (k : Int) := by omega
          have p7 : (i : Int) ≤ (i : Int) + (k : Int) := by omega
          cases hr : rep 0 (l.drop i) k
          · have hne := rep_ncut hr
            go_wp2_with fail
            go_quiet (fail)
            clear f1 f2 f3 f4 f5 d1 d2
            go_wp2_with fail
            go_roundg f
            case measure => omega
            case rel => exact ⟨k + 1, by omega, by omega, by simp, noneTo_succ hno hr, q + nq, (by first | rfl | exact World.drewN_drewN _ _ _)⟩
          · rw [rep_cut' hr] at d2
            go_wp2_with fail
            go_quiet (fail)
            clear f1 f2 f3 f4 f5 d1 d2
            go_wp2_with fail
            go_ret2
            exact ⟨.inl ⟨i, k, ⟨hi, hk1, by rw [List.length_drop]; omega, hr, hno, hpre⟩, rfl⟩, q + nq, (by first | rfl | exact World.drewN_drewN _ _ _)⟩
        · have hlt : l.length < i + 2 * k := by omega
          have hnr : noRep 0 (l.drop i) := noRep_of hno (by rw [List.length_drop]; omega)
          clear hno
          go_wp2_with fail
          go_roundg f'
          case measure => omega
          case rel => exact ⟨i + 1, by omega, by simp, fun j hj => (by
            rcases Nat.lt_or_ge j i with h | h
            · exact hpre j h
            · obtain rfl : j = i := by omega
              exact hnr), q, rfl⟩
    · obtain rfl : i = l.length := by omega
      go_wp2_with fail
      go_ret2
      exact ⟨.inr ⟨fun j hj => hpre j hj, rfl⟩, q, rfl⟩
theorem refTwice0_known (l : List UInt8) (w : World) (hl : l.length ≤ 200) (a b : Nat) (hf : FoundAt 0 l a b) :
    Calls Tryd.prog 8 #[S l, .bool false] w fun e w' => e = .returned (.tuple #[.int .i64 a, .int .i64 b]) ∧ ∃ q, w' = w.drewN q :=
  (refTwice0 l w hl).mono fun e w' h => by
    obtain ⟨⟨i, k, hik, rfl⟩ | ⟨hn, _⟩, hb⟩ := h
    · obtain ⟨rfl, rfl⟩ := found_uniq hik hf
      exact ⟨rfl, hb⟩
    · exact (found_none hf hn).elim
theorem refTwice0_unknown (l : List UInt8) (w : World) (hl : l.length ≤ 200) (hf : NoneAt 0 l) :
    Calls Tryd.prog 8 #[S l, .bool false] w fun e w' => e = .returned (.tuple #[.int .i64 (-1), .int .i64 0]) ∧ ∃ q, w' = w.drewN q :=
  (refTwice0 l w hl).mono fun e w' h => by
    obtain ⟨⟨i, k, hik, rfl⟩ | ⟨_, rfl⟩, hb⟩ := h
    · exact (found_none hik hf).elim
    · exact ⟨rfl, hb⟩

set_option maxRecDepth 100000 in
set_option maxHeartbeats 1000000 in
theorem refTwice1 (l : List UInt8) (w : World) (hl : l.length ≤ 200) :
    Calls Tryd.prog 8 #[S l, .bool true] w (RSays 1 l w) := by
  go_enter Tryd.func8, Tryd.ntmps8
  go_wp2_with fail
  go_loopg [6] l.length (fun f iv wr => ∃ i : Nat, i + f = l.length ∧ iv = .int .i64 (i : Int) ∧ (∀ j, j < i → noRep 1 (l.drop j)) ∧ ∃ q, wr = w.drewN q)
  case atStart => exact ⟨0, by omega, rfl, fun j hj => absurd hj (by omega), 0, rfl⟩
  case round =>
    obtain ⟨i, hif, rfl, hpre, q, rfl⟩ := hrel
    by_cases hi : i < l.length
    · obtain ⟨f', rfl⟩ : ∃ f, gk = f + 1 := ⟨gk - 1, by omega⟩
      go_wp2_with fail
      go_loopg [7] 201 (fun f kv wi => ∃ k : Nat, k + f = 202 ∧ 1 ≤ k ∧ kv = .int .i64 (k : Int) ∧ noneTo 1 (l.drop i) k ∧ ∃ q, wi = w.drewN q)
      case atStart => exact ⟨1, by omega, by omega, rfl, noneTo_one _ _, q, rfl⟩
      case round =>
        clear q
        obtain ⟨k, hkf, hk1, rfl, hno, q, rfl⟩ := hrel
        by_cases hle : i + 2 * k ≤ l.length
        · obtain ⟨f, rfl⟩ : ∃ f, gk = f + 1 := ⟨gk - 1, by omega⟩
          obtain ⟨d1, d2⟩ := str_cuts' l i k
          have f1 : IntKind.i64.wrap (2 * (k : Int)) = 2 * (k : Int) := i64_in _ (by omega)
          have f2 : IntKind.i64.wrap ((i : Int) + 2 * (k : Int)) = (i : Int) + 2 * (k : Int) := i64_in _ (by omega)
          have f3 : IntKind.i64.wrap ((i : Int) + (k : Int)) = (i : Int) + (k : Int) := i64_in _ (by omega)
          have f4 : ((i : Int) + 2 * (k : Int)).toNat = i + 2 * k := by omega
          have f5 : ((i : Int) + (k : Int)).toNat = i + k := by omega
          have p2 : (i : Int) + 2 * (k : Int) ≤ (l.length : Int) := by omega
          have p3 : (i : Int) + (k : Int) ≤ (l.length : Int) := by omega
          have p4 : (i : Int) + (k : Int) ≤ (i : Int) + 2 * (k : Int) := by omega
          have p5 : (0 : Int) ≤ (i : Int) + (k : Int) := by omega
          have p6 : (0 : Int) ≤ (i : Int) + 2 * (k : Int) := by omega
          have p7 : (i : Int) ≤ (i : Int) + (k : Int) := by omega
          cases hr : rep 0 (l.drop i) k
          · have hne := rep_ncut hr
            go_wp2_with fail
            go_quiet (fail)
            clear f1 f2 f3 f4 f5 d1 d2
            go_wp2_with fail
            go_roundg f
            case measure => omega
            case rel => exact ⟨k + 1, by omega, by omega, by simp, noneTo_succ' hno (fun h => by rw [rep_one hk1 h, hr]; rfl), q + nq, (by first | rfl | exact World.drewN_drewN _ _ _)⟩
          · rw [rep_cut' hr] at d2
            by_cases h2 : i + 2 * k < l.length
            · have g1 : decide ((i : Int) + 2 * (k : Int) < (l.length : Int)) = true := decide_eq_true (by omega)
              have g2 : (i : Int) + 2 * (k : Int) < (l.length : Int) := by omega
              have h1r : rep 1 (l.drop i) k = (bu l (i + 2 * k) == bu l i) := by
                rw [rep_one hk1 (by rw [List.length_drop]; omega), hr, bu_drop, bu_drop, Nat.add_zero, Bool.true_and]
              have H1R := Lib.hid h1r; clear h1r
              by_cases hb : bu l (i + 2 * k) = bu l i
              · go_wp2_with fail
                go_quiet (fail)
                clear f1 f2 f3 f4 f5 d1 d2
                go_wp2_with fail
                go_ret2
                exact ⟨.inl ⟨i, k, ⟨hi, hk1, by rw [List.length_drop]; omega, by rw [H1R.out, hb]; simp, hno, hpre⟩, rfl⟩, q + nq, (by first | rfl | exact World.drewN_drewN _ _ _)⟩
              · have b1 : ((bu l (i + 2 * k)).toNat == (bu l i).toNat) = false := by
                  rw [beq_eq_false_iff_ne]; intro h; exact hb (UInt8.toNat_inj.1 h)
                have b2 : (((bu l (i + 2 * k)).toNat : Int) == ((bu l i).toNat : Int)) = false := by
                  rw [beq_eq_false_iff_ne]; intro h; exact hb (UInt8.toNat_inj.1 (by exact_mod_cast h))
                have b3 : (bu l (i + 2 * k) == bu l i) = false := by rw [beq_eq_false_iff_ne]; exact hb
                have B3' := Lib.hid b3
                go_wp2_with fail
                go_quiet (fail)
                clear f1 f2 f3 f4 f5 d1 d2 b1 b2 b3
                go_wp2_with fail
                go_roundg f
                case measure => omega
                case rel => exact ⟨k + 1, by omega, by omega, by simp, noneTo_succ' hno (fun h => by rw [H1R.out, B3'.out]), q + nq, (by first | rfl | exact World.drewN_drewN _ _ _)⟩
            · have g1 : decide ((i : Int) + 2 * (k : Int) < (l.length : Int)) = false := decide_eq_false (by omega)
              go_wp2_with fail
              go_quiet (fail)
              clear f1 f2 f3 f4 f5 d1 d2
              go_wp2_with fail
              go_roundg f
              case measure => omega
              case rel => exact ⟨k + 1, by omega, by omega, by simp, noneTo_succ' hno (fun h => absurd h (by rw [List.length_drop]; omega)), q + nq, (by first | rfl | exact World.drewN_drewN _ _ _)⟩
        · have hlt : l.length < i + 2 * k := by omega
          have hnr : noRep 1 (l.drop i) := noRep_of hno (by rw [List.length_drop]; omega)
          clear hno
          go_wp2_with fail
          go_roundg f'
          case measure => omega
          case rel => exact ⟨i + 1, by omega, by simp, fun j hj => (by
            rcases Nat.lt_or_ge j i with h | h
            · exact hpre j h
            · obtain rfl : j = i := by omega
              exact hnr), q, rfl⟩
    · obtain rfl : i = l.length := by omega
      go_wp2_with fail
      go_ret2
      exact ⟨.inr ⟨fun j hj => hpre j hj, rfl⟩, q, rfl⟩
theorem refTwice1_known (l : List UInt8) (w : World) (hl : l.length ≤ 200) (a b : Nat) (hf : FoundAt 1 l a b) :
    Calls Tryd.prog 8 #[S l, .bool true] w fun e w' => e = .returned (.tuple #[.int .i64 a, .int .i64 b]) ∧ ∃ q, w' = w.drewN q :=
  (refTwice1 l w hl).mono fun e w' h => by
    obtain ⟨⟨i, k, hik, rfl⟩ | ⟨hn, _⟩, hb⟩ := h
    · obtain ⟨rfl, rfl⟩ := found_uniq hik hf
      exact ⟨rfl, hb⟩
    · exact (found_none hf hn).elim
theorem refTwice1_unknown (l : List UInt8) (w : World) (hl : l.length ≤ 200) (hf : NoneAt 1 l) :
    Calls Tryd.prog 8 #[S l, .bool true] w fun e w' => e = .returned (.tuple #[.int .i64 (-1), .int .i64 0]) ∧ ∃ q, w' = w.drewN q :=
  (refTwice1 l w hl).mono fun e w' h => by
    obtain ⟨⟨i, k, hik, rfl⟩ | ⟨_, rfl⟩, hb⟩ := h
    · exact (found_none hik hf).elim
    · exact ⟨rfl, hb⟩
end Go.Proofs.YtaoppfcniifjhaaDoor
