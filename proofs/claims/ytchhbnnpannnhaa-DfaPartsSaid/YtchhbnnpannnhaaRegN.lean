/- The document's Letters and Signs: their walks. No condition. -/
import Derived.Test.YtchhbnnpannnhaaRegW
import Derived.Test.YtchhbnnpannnhaaRegS
import Derived.Lib.Strings
namespace Go.Proofs.Ytchhbnnpannnhaa
open Go.RowKit IntWalk
attribute [local go_sem] byte_at str_app

theorem str_one {a : List UInt8} {i : Nat} (h : i < a.length) : (ByteArray.mk a.toArray).extract i (i + 1) = ByteArray.mk [bu a i].toArray := by
  rw [Lib.extract_eq, show i + 1 - i = 1 by omega, List.drop_eq_getElem_cons h, bu_eq h]; rfl
theorem lets_step {s : List UInt8} {i : Nat} (h : i < s.length) : lets (s.take (i + 1)) = if isLo (bu s i) = true then lets (s.take i) ++ [bu s i] else lets (s.take i) := by
  rw [take_succ_bu h, lets_app]
  by_cases hl : isLo (bu s i) = true
  · rw [if_pos hl]; simp [lets, hl]
  · rw [if_neg hl]; simp [lets, hl]
theorem lets_len (s : List UInt8) : (lets s).length ≤ s.length := List.length_filter_le _ _
set_option maxHeartbeats 1000000 in
theorem letters_any (s : List UInt8) (w : World) (hl : s.length ≤ 1000) :
    Calls Try.prog 9 #[S s] w fun e w' => e = .returned (S (lets s)) ∧ w = w' := by
  have HR : Hid (lets s = lets (s.take s.length)) := Lib.hid (by rw [List.take_length])
  generalize lets s = R at *
  go_enter Try.func9, Try.ntmps9
  go_wp2_with fail
  go_loopg [3, 4] s.length (fun f ov iv wr => ∃ (i : Nat), i + f = s.length ∧ iv = .int .i64 (i : Int) ∧ ov = S (lets (s.take i)) ∧ wr = w)
  case atStart => exact ⟨0, by omega, rfl, rfl, rfl⟩
  case round =>
    obtain ⟨i, hif, rfl, rfl, rfl⟩ := hrel
    by_cases hlt : i < s.length
    · obtain ⟨f, rfl⟩ : ∃ f, gk = f + 1 := ⟨gk - 1, by omega⟩
      have hst := lets_step hlt
      have hll := lets_len (s.take i)
      rw [List.length_take] at hll
      have hx := str_one hlt
      have p1 : (i : Int) < (s.length : Int) := by omega
      have p2 : (0 : Int) ≤ (i : Int) := by omega
      have p3 : IntKind.i64.wrap ((i : Int) + 1) = (i : Int) + 1 := i64_in _ (by omega)
      have p4 : (i : Int) ≤ (i : Int) + 1 := by omega
      have p5 : (i : Int) + 1 ≤ (s.length : Int) := by omega
      have p6 : ((i : Int) + 1).toNat = i + 1 := by omega
      generalize lets (s.take i) = o at *
      have p7 : ¬ 9223372036854775807 < o.length + 1 := by omega
      generalize hc : bu s i = c at *
      by_cases ha : 97 ≤ c.toNat
      · have q1 : (97 : Int) ≤ (c.toNat : Int) := by omega
        by_cases hb : c.toNat ≤ 122
        · have q2 : (c.toNat : Int) ≤ 122 := by omega
          have HS : Hid (lets (s.take (i + 1)) = o ++ [c]) := Lib.hid (by rw [hst, if_pos]; unfold isLo; exact decide_eq_true ⟨UInt8.le_iff_toNat_le.2 ha, UInt8.le_iff_toNat_le.2 hb⟩)
          clear hst ha hb
          go_wp2_with fail
          go_roundg f
          case measure => omega
          case rel => exact ⟨i + 1, by omega, by simp, by rw [HS.out], rfl⟩
        · have q2 : ¬ (c.toNat : Int) ≤ 122 := by omega
          have HS : Hid (lets (s.take (i + 1)) = o) := Lib.hid (by rw [hst, if_neg]; unfold isLo; intro h; exact hb (UInt8.le_iff_toNat_le.1 (of_decide_eq_true h).2))
          clear hst ha hb
          go_wp2_with fail
          go_roundg f
          case measure => omega
          case rel => exact ⟨i + 1, by omega, by simp, by rw [HS.out], rfl⟩
      · have q1 : ¬ (97 : Int) ≤ (c.toNat : Int) := by omega
        have HS : Hid (lets (s.take (i + 1)) = o) := Lib.hid (by rw [hst, if_neg]; unfold isLo; intro h; exact ha (UInt8.le_iff_toNat_le.1 (of_decide_eq_true h).1))
        clear hst ha
        go_wp2_with fail
        go_roundg f
        case measure => omega
        case rel => exact ⟨i + 1, by omega, by simp, by rw [HS.out], rfl⟩
    · obtain rfl : i = s.length := by omega
      have p1 : ¬ (s.length : Int) < (s.length : Int) := by omega
      rw [← HR.out]
      go_wp2_with fail
      go_ret
      exact ⟨rfl, rfl⟩
end Go.Proofs.Ytchhbnnpannnhaa
