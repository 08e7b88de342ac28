/- The walks over package book's small functions, and down, Put, Cut. Condition: the table of internal/strconv.uint64pow10 reads as the library's text lays it. -/
import Derived.Test.YtgmmlblefealjaaDoorBookB
import Derived.IntWalk
import Derived.Lib.AppendIntMem
import Derived.Laws.IdiomStrings
import Derived.Deep.RegionWith
import Derived.Deep.DrawnRows
namespace Go.Proofs.YtgmmlblefealjaaDoor
open Go.RowKit IntWalk
attribute [local go_sem] byte_at str_app
attribute [local go_sem ↓] Go.wp_at_zero Go.wp_at_succ

/-- The condition. -/
def TG (w : World) : Prop := Lib.TabIs Tryd.prog w "internal/strconv.uint64pow10" .u64 Lib.pow10Tab
theorem tgG : Tryd.prog.globalNamed "internal/strconv.uint64pow10" = some 1 := by kernel_rfl
theorem TG.below {w w' : World} {B : Nat} (h : TG w) (hb : Below B w w') (hB : w.heap.size ≤ B) : TG w' := Joins.tab_stays tgG h hb hB
theorem itoa_any (n : Nat) (w : World) (hn : n ≤ 1000000) (ht : TG w) :
    Calls Tryd.prog 28 #[.int .i64 (n : Int)] w fun e w' => e = .returned (S (Lib.itoa (n : Int))) ∧ Below w.heap.size w w' := by
  refine (Tryd.strconv_Itoa (n : Int) (by omega) (by omega) w ht).mono ?_
  rintro e w' ⟨rfl, k, os, rfl⟩
  exact ⟨rfl, Lib.below_grow _ w (Nat.le_refl _) k os⟩
theorem itoa_len (n : Nat) (hn : n ≤ 1000000) : (Lib.itoa (n : Int)).length ≤ 21 := Lib.itoa_length_le _ (by omega) (by omega)

/-- '[]byte(s)'. -/
theorem conv_bytes (l : List UInt8) (w : World) : ∃ cap w', (convert 9 47 (S l)).run Tryd.prog w = .ok (.slice (some ⟨w.heap.size, 0, none⟩) l.length cap) w' ∧ Below w.heap.size w w' ∧ w'.heap.size = w.heap.size + 1 ∧
    ∀ j, j < l.length → w'.cell? ⟨w.heap.size, j, none⟩ = some (.int .u8 ((bu l j).toNat : Int)) := by
  refine ⟨_, _, run_bytes_of_string w 9 47 5 ⟨l.toArray⟩ Tryd.underlying9 Tryd.underlying47 Tryd.underlying5, ?_, ?_, ?_⟩
  · exact (show Below w.heap.size w w.drew from below_drewN (Below.refl _ _) 1).alloc (Nat.le_refl _) _
  · show (w.heap.push _).size = _; simp
  · intro j hj
    have := World.cell?_alloc_mark w.drew (bytesRow ⟨l.toArray⟩ (grownCap w (ByteArray.mk l.toArray).size 0 5)) 5 ((bytesRow ⟨l.toArray⟩ (grownCap w (ByteArray.mk l.toArray).size 0 5)).size, (bytesRow ⟨l.toArray⟩ (grownCap w (ByteArray.mk l.toArray).size 0 5)).size + 1) j
    refine Eq.trans this ?_
    unfold bytesRow
    rw [Array.getElem?_append_left (by simpa using hj)]
    simp [bu_eq hj, hj]

def sumP (l : List UInt8) : Nat → Nat
  | 0 => 0
  | i + 1 => sumP l i + (i + 1) * (bu l i).toNat
def sumM (l : List UInt8) : Nat := sumP l l.length % 9973
theorem sumP_le (l : List UInt8) : ∀ i, i ≤ 1000 → sumP l i ≤ i * 255000 := by
  intro i
  induction i with
  | zero => intro _; simp [sumP]
  | succ i ih =>
    intro h
    have h1 := ih (by omega)
    have h2 : (i + 1) * (bu l i).toNat ≤ 1000 * 255 := Nat.mul_le_mul h (by have := bu_lt l i; omega)
    simp only [sumP]
    omega
set_option maxRecDepth 100000 in
set_option maxHeartbeats 1000000 in
theorem sum_any (l : List UInt8) (w : World) (hl : l.length ≤ 1000) :
    Calls Tryd.prog 38 #[S l] w fun e w' => e = .returned (.int .i64 (sumM l : Int)) ∧ Below w.heap.size w w' := by
  obtain ⟨cap, w2, hcv, hB, hz2, hc2⟩ := conv_bytes l w
  have HB := Lib.hid hB; have HC := Lib.hid hc2
  clear hB hz2 hc2
  go_enter Tryd.func38, Tryd.ntmps38
  go_wp2_with fail
  clear hcv
  go_loopg [3, 9] l.length (fun f sv iv wr => ∃ i : Nat, i + f = l.length ∧ iv = .int .i64 (i : Int) ∧ sv = .int .i64 (sumP l i : Int) ∧ wr = w2)
  case atStart => exact ⟨0, by omega, rfl, rfl, rfl⟩
  case round =>
    obtain ⟨i, hif, rfl, rfl, hw⟩ := hrel
    obtain rfl : w2 = wr := hw.symm
    have hb1 := sumP_le l i (by omega)
    by_cases hlt : i < l.length
    · obtain ⟨f, rfl⟩ : ∃ f, gk = f + 1 := ⟨gk - 1, by omega⟩
      have hcell := HC.out i hlt
      have h2 : (i + 1) * (bu l i).toNat ≤ 1000 * 255 := Nat.mul_le_mul (by omega) (by have := bu_lt l i; omega)
      have hs : sumP l (i + 1) = sumP l i + (i + 1) * (bu l i).toNat := rfl
      have hm : ((i : Int) + 1) * ((bu l i).toNat : Int) = (((i + 1) * (bu l i).toNat : Nat) : Int) := by rw [Int.natCast_mul]; rfl
      have HS := Lib.hid hs
      generalize (i + 1) * (bu l i).toNat = m at *
      generalize sumP l i = n at *
      have hn : n ≤ 255000000 := by have : i * 255000 ≤ 1000 * 255000 := Nat.mul_le_mul_right _ (by omega); omega
      have e1 : (0 : Int) ≤ ((i : Int) + 1) * ((bu l i).toNat : Int) := by rw [hm]; omega
      have e2 : ((i : Int) + 1) * ((bu l i).toNat : Int) ≤ 255000 := by rw [hm]; omega
      have HM := Lib.hid hm
      clear hs hb1 hm
      go_wp2_with fail
      go_roundg f
      case measure => omega
      case rel =>
        have k1 : wrap64 ((bu l i).toNat : Int) = ((bu l i).toNat : Int) := wrap64_in _ (by have := bu_lt l i; omega)
        have k2 : wrap64 (m : Int) = (m : Int) := wrap64_in _ (by omega)
        have k3 : wrap64 ((n : Int) + (m : Int)) = (n : Int) + (m : Int) := wrap64_in _ (by omega)
        exact ⟨i + 1, by omega, by simp, by rw [HS.out]; congr 1; rw [k1, HM.out, k2, k3]; omega, rfl⟩
    · obtain rfl : i = l.length := by omega
      have HS : Hid (sumM l = sumP l l.length % 9973) := Lib.hid rfl
      generalize sumP l l.length = n at *
      go_wp2_with fail
      go_ret
      exact ⟨by rw [HS.out]; simp, HB.out⟩
set_option maxHeartbeats 400000 in
theorem within_any (n lo hi : Int) (w : World) :
    Calls Tryd.prog 25 #[.int .i64 n, .int .i64 lo, .int .i64 hi] w fun e w' => e = .returned (.bool (decide (lo ≤ n ∧ n ≤ hi))) ∧ w = w' := by
  by_cases h1 : lo ≤ n
  · by_cases h2 : n ≤ hi
    all_goals
      go_enter Tryd.func25, Tryd.ntmps25
      go_wp2
      go_ret
      exact ⟨by simp [h1, h2], rfl⟩
  · go_enter Tryd.func25, Tryd.ntmps25
    go_wp2
    go_ret
    exact ⟨ret_bool (by simp [show ¬ lo ≤ n from by omega]), rfl⟩
set_option maxHeartbeats 400000 in
theorem long1_yes (m : Int) (l : List UInt8) (w : World) (b off : Nat) (hA : w.cell? ⟨b, off, none⟩ = some (S l)) (h : m < (l.length : Int)) :
    Calls Tryd.prog 19 #[.int .i64 m, .slice (some ⟨b, off, none⟩) 1 1] w fun e w' => e = .returned (.iface 56 (.int .i64 4)) ∧ w = w' := by
  go_enter Tryd.func19, Tryd.ntmps19
  go_wp2_with fail
  refine wp_loop_rounds 2 ?_
  rw [rounds_succ]
  go_wp2_with fail
  go_ret
  exact ⟨rfl, rfl⟩
set_option maxHeartbeats 400000 in
theorem long1_no (m : Int) (l : List UInt8) (w : World) (b off : Nat) (hA : w.cell? ⟨b, off, none⟩ = some (S l)) (h : (l.length : Int) ≤ m) :
    Calls Tryd.prog 19 #[.int .i64 m, .slice (some ⟨b, off, none⟩) 1 1] w fun e w' => e = .returned .nilIface ∧ w = w' := by
  go_enter Tryd.func19, Tryd.ntmps19
  go_wp2_with fail
  refine wp_loop_rounds 2 ?_
  rw [rounds_succ]
  go_wp2_with fail
  rw [rounds_succ]
  go_wp2_with fail
  go_ret
  exact ⟨rfl, rfl⟩

/-- What is wrong with a word. -/
def lo (c : UInt8) : Bool := decide (97 ≤ c.toNat ∧ c.toNat ≤ 122)
def wordE (l : List UInt8) : Int := if l = [] then 5 else if 8 < l.length then 4 else if l.all lo then 0 else 2
set_option maxRecDepth 100000 in
set_option maxHeartbeats 1000000 in
theorem word_any (l : List UInt8) (w : World) (hl : l.length ≤ 9223372036854775807) :
    Calls Tryd.prog 26 #[S l] w fun e w' => e = .returned (errV (wordE l)) ∧ Below w.heap.size w w' := by
  by_cases h0 : l = []
  · subst h0
    go_enter Tryd.func26, Tryd.ntmps26
    go_wp2_with fail
    go_ret
    exact ⟨rfl, Below.refl _ _⟩
  have hne : l.isEmpty = false := by cases l with
    | nil => exact absurd rfl h0
    | cons => rfl
  by_cases h8 : 8 < l.length
  · have HE := Lib.hid (show wordE l = 4 by unfold wordE; rw [if_neg h0, if_pos h8])
    clear h0
    go_enter Tryd.func26, Tryd.ntmps26
    go_wp2_with fail
    refine (long1_yes 8 l _ _ _ ?_ (by omega)).mono ?_
    · simp [World.cell?_alloc_new]
    rintro e w' ⟨rfl, rfl⟩
    go_wp2_with fail
    go_ret
    exact ⟨by rw [HE.out]; rfl, (Below.refl _ _).alloc (Nat.le_refl _) _⟩
  have HE := Lib.hid (show wordE l = if l.all lo then 0 else 2 by unfold wordE; rw [if_neg h0, if_neg h8])
  clear h0
  have hB1 : Below w.heap.size w (w.alloc (.cells #[S l] 9)) := (Below.refl _ _).alloc (Nat.le_refl _) _
  obtain ⟨cap, w2, hcv, hB2, hz2, hc2⟩ := conv_bytes l (w.alloc (.cells #[S l] 9))
  have HB := Lib.hid (hB1.trans (hB2.mono (by simp)))
  have HC := Lib.hid hc2
  clear hB1 hB2 hz2 hc2
  rw [show (w.alloc (.cells #[S l] 9)).heap.size = w.heap.size + 1 by simp] at hcv HC
  go_enter Tryd.func26, Tryd.ntmps26
  go_wp2_with fail
  refine (long1_no 8 l _ _ _ ?_ (by omega)).mono ?_
  · simp [World.cell?_alloc_new]
  rintro e w' ⟨rfl, rfl⟩
  go_wp2_with fail
  clear hcv
  generalize w.heap.size + 1 = g at *
  go_loopg [18] l.length (fun f iv wr => ∃ i : Nat, i + f = l.length ∧ iv = .int .i64 (i : Int) ∧ (l.take i).all lo = true ∧ wr = w2)
  case atStart => exact ⟨0, by omega, rfl, rfl, rfl⟩
  case round =>
    obtain ⟨i, hif, rfl, hall, hw⟩ := hrel
    obtain rfl : w2 = wr := hw.symm
    by_cases hlt : i < l.length
    · obtain ⟨f, rfl⟩ : ∃ f, gk = f + 1 := ⟨gk - 1, by omega⟩
      have hcell := HC.out i hlt
      have hst : (l.take (i + 1)).all lo = ((l.take i).all lo && lo (bu l i)) := by rw [take_succ_bu hlt, List.all_append]; simp
      rw [hall, Bool.true_and] at hst
      have HST := Lib.hid hst
      clear hst hall
      by_cases h1 : (97 : Int) ≤ ((bu l i).toNat : Int)
      · by_cases h2 : ((bu l i).toNat : Int) ≤ 122
        · have HL : Hid (lo (bu l i) = true) := Lib.hid (decide_eq_true (by omega))
          go_wp2_with fail
          go_roundg f
          case measure => omega
          case rel => exact ⟨i + 1, by omega, by simp, by rw [HST.out, HL.out], rfl⟩
        · have HN : Hid (l.all lo = false) := Lib.hid (by
            rw [List.all_eq_false]
            exact ⟨bu l i, bu_mem hlt, by simp [lo]; omega⟩)
          go_wp2_with fail
          go_ret
          exact ⟨by rw [HE.out, HN.out]; rfl, HB.out⟩
      · have HN : Hid (l.all lo = false) := Lib.hid (by
          rw [List.all_eq_false]
          exact ⟨bu l i, bu_mem hlt, by simp [lo]; omega⟩)
        go_wp2_with fail
        go_ret
        exact ⟨by rw [HE.out, HN.out]; rfl, HB.out⟩
    · obtain rfl : i = l.length := by omega
      rw [List.take_length] at hall
      have HN := Lib.hid hall
      clear hall
      go_wp2_with fail
      go_ret
      exact ⟨by rw [HE.out, HN.out]; rfl, HB.out⟩
end Go.Proofs.YtgmmlblefealjaaDoor
