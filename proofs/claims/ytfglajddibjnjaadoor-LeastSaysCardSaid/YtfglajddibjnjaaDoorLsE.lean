/- slices.Equal at numbers and at truths, EqualFunc at rows of numbers, IndexFunc with the closure of package least's classes. No condition. -/
import Derived.Test.YtfglajddibjnjaaDoorLsO
namespace Go.Proofs.YtfglajddibjnjaaDoor
open Go.RowKit IntWalk
attribute [local go_sem ↓] Go.wp_at_zero Go.wp_at_succ

theorem ints_ext {L L2 : List Int} (h : L.length = L2.length) (hp : ∀ i, i < L.length → gi L i = gi L2 i) : L = L2 :=
  List.ext_getElem h fun i h1 h2 => by have := hp i h1; rw [gi_eq h1, gi_eq h2] at this; exact this
theorem bls_ext {L L2 : List Bool} (h : L.length = L2.length) (hp : ∀ i, i < L.length → bo L i = bo L2 i) : L = L2 :=
  List.ext_getElem h fun i h1 h2 => by have := hp i h1; rw [bo_eq h1, bo_eq h2] at this; exact this
theorem rows_ext {L L2 : List (List Int)} (h : L.length = L2.length) (hp : ∀ i, i < L.length → ro L i = ro L2 i) : L = L2 :=
  List.ext_getElem h fun i h1 h2 => by have := hp i h1; rw [ro_eq h1, ro_eq h2] at this; exact this

set_option maxHeartbeats 2000000 in
theorem eqI_any (A A2 : Option Addr) (n m c c2 B : Nat) (L L2 : List Int) (w : World) (h : Ints w B A n L) (h2 : Ints w B A2 m L2) (hn : n ≤ 100000) :
    Calls Tryd.prog 28 #[.slice A n c, .slice A2 m c2] w fun e w' => e = .returned (.bool (decide (L = L2))) ∧ ∃ q, w' = w.drewN q := by
  have H1 := Lib.hid h; have H2 := Lib.hid h2
  have l1 := h.1; have l2 := h2.1
  clear h h2
  by_cases hnm : n = m
  · subst hnm
    have q1 : ((n : Int) != (n : Int)) = false := by simp
    have HL := Lib.hid l1; have HL2 := Lib.hid l2
    clear l1 l2
    go_enter Tryd.func28, Tryd.ntmps28
    go_wp2_with fail
    go_loopg [13] n (fun f iv wr => ∃ j q : Nat, j + f = n ∧ iv = .int .i64 (j : Int) ∧ wr = w.drewN q ∧ Hid (∀ i, i < j → gi L i = gi L2 i))
    case atStart => exact ⟨0, 0, by omega, rfl, rfl, Lib.hid fun i h => absurd h (by omega)⟩
    case round =>
      obtain ⟨j, q, hjf, rfl, rfl, HP⟩ := hrel
      by_cases hlt : j < n
      · obtain ⟨f, rfl⟩ : ∃ f, gk = f + 1 := ⟨gk - 1, by omega⟩
        obtain ⟨b, o, rfl, _, c0⟩ := H1.out.at_ hlt
        obtain ⟨b2, o2, rfl, _, c1⟩ := H2.out.at_ hlt
        have p1 : (j : Int) < (n : Int) := by omega
        have p2 : IntKind.i64.wrap ((j : Int) + 1) = (j : Int) + 1 := i64_in _ (by omega)
        by_cases he : gi L j = gi L2 j
        · have HP2 : Hid (∀ i, i < j + 1 → gi L i = gi L2 i) := Lib.hid fun i hi => by
            rcases Nat.lt_or_ge i j with hl | hl
            · exact HP.out i hl
            · obtain rfl : i = j := by omega
              exact he
          have q2 : (gi L j != gi L2 j) = false := by rw [he]; simp
          clear he HP
          generalize gi L j = x at *
          generalize gi L2 j = y at *
          go_wp2_with fail
          go_quiet (fail)
          go_wp2_with fail
          go_roundg f
          case measure => omega
          case rel => exact ⟨j + 1, q + nq, by omega, by simp, by simp, HP2⟩
        · have q2 : (gi L j != gi L2 j) = true := by simpa using he
          have HD : Hid (decide (L = L2) = false) := Lib.hid (decide_eq_false fun e => he (by rw [e]))
          clear he HP
          generalize gi L j = x at *
          generalize gi L2 j = y at *
          go_wp2_with fail
          go_quiet (fail)
          go_wp2_with fail
          go_ret
          exact ⟨ret_bool HD.out.symm, q + nq, by simp⟩
      · obtain rfl : j = n := by omega
        have HD : Hid (decide (L = L2) = true) := Lib.hid (decide_eq_true (ints_ext (HL.out.trans HL2.out.symm) fun i hi => HP.out i (by rw [HL.out] at hi; exact hi)))
        have p1 : ¬ (j : Int) < (j : Int) := by omega
        clear HP
        go_wp2_with fail
        go_ret
        exact ⟨ret_bool HD.out.symm, _, rfl⟩
  · have q1 : ((n : Int) != (m : Int)) = true := by simp; omega
    have HD : Hid (decide (L = L2) = false) := Lib.hid (decide_eq_false fun e => hnm (by rw [← l1, ← l2, e]))
    clear l1 l2 hnm
    go_enter Tryd.func28, Tryd.ntmps28
    go_wp2_with fail
    go_ret
    exact ⟨ret_bool HD.out.symm, 0, rfl⟩

set_option maxHeartbeats 2000000 in
theorem eqB_any (A A2 : Option Addr) (n m c c2 B : Nat) (L L2 : List Bool) (w : World) (h : Bls w B A n L) (h2 : Bls w B A2 m L2) (hn : n ≤ 100000) :
    Calls Tryd.prog 26 #[.slice A n c, .slice A2 m c2] w fun e w' => e = .returned (.bool (decide (L = L2))) ∧ ∃ q, w' = w.drewN q := by
  have H1 := Lib.hid h; have H2 := Lib.hid h2
  have l1 := h.1; have l2 := h2.1
  clear h h2
  by_cases hnm : n = m
  · subst hnm
    have q1 : ((n : Int) != (n : Int)) = false := by simp
    have HL := Lib.hid l1; have HL2 := Lib.hid l2
    clear l1 l2
    go_enter Tryd.func26, Tryd.ntmps26
    go_wp2_with fail
    go_loopg [13] n (fun f iv wr => ∃ j q : Nat, j + f = n ∧ iv = .int .i64 (j : Int) ∧ wr = w.drewN q ∧ Hid (∀ i, i < j → bo L i = bo L2 i))
    case atStart => exact ⟨0, 0, by omega, rfl, rfl, Lib.hid fun i h => absurd h (by omega)⟩
    case round =>
      obtain ⟨j, q, hjf, rfl, rfl, HP⟩ := hrel
      by_cases hlt : j < n
      · obtain ⟨f, rfl⟩ : ∃ f, gk = f + 1 := ⟨gk - 1, by omega⟩
        obtain ⟨b, o, rfl, _, c0⟩ := H1.out.at_ hlt
        obtain ⟨b2, o2, rfl, _, c1⟩ := H2.out.at_ hlt
        have p1 : (j : Int) < (n : Int) := by omega
        have p2 : IntKind.i64.wrap ((j : Int) + 1) = (j : Int) + 1 := i64_in _ (by omega)
        by_cases he : bo L j = bo L2 j
        · have HP2 : Hid (∀ i, i < j + 1 → bo L i = bo L2 i) := Lib.hid fun i hi => by
            rcases Nat.lt_or_ge i j with hl | hl
            · exact HP.out i hl
            · obtain rfl : i = j := by omega
              exact he
          rw [he] at c0
          clear he HP
          generalize bo L2 j = y at *
          cases y
          all_goals
            go_wp2_with fail
            go_quiet (fail)
            go_wp2_with fail
            go_roundg f
            case measure => omega
            case rel => exact ⟨j + 1, q + nq, by omega, by simp, by simp, HP2⟩
        · have q2 : (bo L j != bo L2 j) = true := by simpa using he
          have HD : Hid (decide (L = L2) = false) := Lib.hid (decide_eq_false fun e => he (by rw [e]))
          have hy : bo L2 j = !bo L j := by cases h1 : bo L j <;> cases h2 : bo L2 j <;> simp_all
          rw [hy] at c1
          clear he HP hy q2
          generalize bo L j = x at *
          cases x
          all_goals
            go_wp2_with fail
            go_quiet (fail)
            go_wp2_with fail
            go_ret
            exact ⟨ret_bool HD.out.symm, q + nq, by simp⟩
      · obtain rfl : j = n := by omega
        have HD : Hid (decide (L = L2) = true) := Lib.hid (decide_eq_true (bls_ext (HL.out.trans HL2.out.symm) fun i hi => HP.out i (by rw [HL.out] at hi; exact hi)))
        have p1 : ¬ (j : Int) < (j : Int) := by omega
        clear HP
        go_wp2_with fail
        go_ret
        exact ⟨ret_bool HD.out.symm, _, rfl⟩
  · have q1 : ((n : Int) != (m : Int)) = true := by simp; omega
    have HD : Hid (decide (L = L2) = false) := Lib.hid (decide_eq_false fun e => hnm (by rw [← l1, ← l2, e]))
    clear l1 l2 hnm
    go_enter Tryd.func26, Tryd.ntmps26
    go_wp2_with fail
    go_ret
    exact ⟨ret_bool HD.out.symm, 0, rfl⟩

set_option maxHeartbeats 2000000 in
/-- Are two rows of rows the same? -/
theorem eqR_any (A A2 : Option Addr) (n m c c2 B : Nat) (L L2 : List (List Int)) (w : World) (h : Rws w B A n L) (h2 : Rws w B A2 m L2) (hn : n ≤ 100000) (hr : ∀ i, i < n → (ro L i).length ≤ 100000) :
    Calls Tryd.prog 27 #[.slice A n c, .slice A2 m c2, .func (.func 28) #[] #[]] w fun e w' => e = .returned (.bool (decide (L = L2))) ∧ ∃ q, w' = w.drewN q := by
  have H1 := Lib.hid h; have H2 := Lib.hid h2; have HR := Lib.hid hr
  have l1 := h.1; have l2 := h2.1
  clear h h2 hr
  by_cases hnm : n = m
  · subst hnm
    have q1 : ((n : Int) != (n : Int)) = false := by simp
    have HL := Lib.hid l1; have HL2 := Lib.hid l2
    clear l1 l2
    go_enter Tryd.func27, Tryd.ntmps27
    go_wp2_with fail
    go_loopg [17] n (fun f iv wr => ∃ j q : Nat, j + f = n ∧ iv = .int .i64 (j : Int) ∧ wr = w.drewN q ∧ Hid (∀ i, i < j → ro L i = ro L2 i))
    case atStart => exact ⟨0, 0, by omega, rfl, rfl, Lib.hid fun i h => absurd h (by omega)⟩
    case round =>
      obtain ⟨j, q, hjf, rfl, rfl, HP⟩ := hrel
      by_cases hlt : j < n
      · obtain ⟨f, rfl⟩ : ∃ f, gk = f + 1 := ⟨gk - 1, by omega⟩
        obtain ⟨b, o, a1, m1, k1, rfl, _, c0, hI1⟩ := H1.out.at_ hlt
        obtain ⟨b2, o2, a2, m2, k2, rfl, _, c1, hI2⟩ := H2.out.at_ hlt
        have p1 : (j : Int) < (n : Int) := by omega
        have p2 : IntKind.i64.wrap ((j : Int) + 1) = (j : Int) + 1 := i64_in _ (by omega)
        have HC := Lib.hid (eqI_any a1 a2 m1 m2 k1 k2 B _ _ (w.drewN q) (hI1.drewN q) (hI2.drewN q) (by rw [← hI1.1]; exact HR.out j hlt))
        clear hI1 hI2
        by_cases he : ro L j = ro L2 j
        · have HP2 : Hid (∀ i, i < j + 1 → ro L i = ro L2 i) := Lib.hid fun i hi => by
            rcases Nat.lt_or_ge i j with hl | hl
            · exact HP.out i hl
            · obtain rfl : i = j := by omega
              exact he
          rw [decide_eq_true he] at HC
          clear he HP
          go_wp2_with fail
          refine HC.out.mono ?_
          rintro e w' ⟨rfl, q', rfl⟩
          go_wp2_with fail
          go_roundg f
          case measure => omega
          case rel => exact ⟨j + 1, q + q', by omega, by simp, by simp, HP2⟩
        · have HD : Hid (decide (L = L2) = false) := Lib.hid (decide_eq_false fun e => he (by rw [e]))
          rw [decide_eq_false he] at HC
          clear he HP
          go_wp2_with fail
          refine HC.out.mono ?_
          rintro e w' ⟨rfl, q', rfl⟩
          go_wp2_with fail
          go_ret
          exact ⟨ret_bool HD.out.symm, q + q', by simp⟩
      · obtain rfl : j = n := by omega
        have HD : Hid (decide (L = L2) = true) := Lib.hid (decide_eq_true (rows_ext (HL.out.trans HL2.out.symm) fun i hi => HP.out i (by rw [HL.out] at hi; exact hi)))
        have p1 : ¬ (j : Int) < (j : Int) := by omega
        clear HP
        go_wp2_with fail
        go_ret
        exact ⟨ret_bool HD.out.symm, _, rfl⟩
  · have q1 : ((n : Int) != (m : Int)) = true := by simp; omega
    have HD : Hid (decide (L = L2) = false) := Lib.hid (decide_eq_false fun e => hnm (by rw [← l1, ← l2, e]))
    clear l1 l2 hnm
    go_enter Tryd.func27, Tryd.ntmps27
    go_wp2_with fail
    go_ret
    exact ⟨ret_bool HD.out.symm, 0, rfl⟩

set_option maxHeartbeats 1000000 in
/-- The closure: is a row the key in its box? -/
theorem isKey_any (A A2 : Option Addr) (n m c c2 B kb : Nat) (L K : List Int) (w : World) (h : Ints w B A n L) (h2 : Ints w B A2 m K) (hb : w.cell? ⟨kb, 0, none⟩ = some (.slice A2 m c2)) (hn : n ≤ 100000) :
    Calls Tryd.prog 33 #[.slice A n c, .pointer (some ⟨kb, 0, none⟩)] w fun e w' => e = .returned (.bool (decide (L = K))) ∧ ∃ q, w' = w.drewN q := by
  have HC := Lib.hid (eqI_any A A2 n m c c2 B L K w h h2 hn)
  clear h h2
  go_enter Tryd.func33, Tryd.ntmps33
  go_wp2_with fail
  refine HC.out.mono ?_
  rintro e w' ⟨rfl, q, rfl⟩
  go_wp2_with fail
  go_ret
  exact ⟨rfl, q, rfl⟩
/-- The first place of a key among rows; -1: none. -/
def idxK (L : List (List Int)) (K : List Int) : Int := if K ∈ L then (L.idxOf K : Int) else -1
theorem idxOf_first {L : List (List Int)} {K : List Int} {j : Nat} (hj : j < L.length) (he : ro L j = K) (hn : ∀ i, i < j → ro L i ≠ K) : idxK L K = (j : Int) := by
  have hm : K ∈ L := by rw [← he]; exact ro_mem hj
  unfold idxK
  rw [if_pos hm]
  have hl := List.idxOf_lt_length_of_mem hm
  have hg : ro L (L.idxOf K) = K := by rw [ro_eq hl, List.getElem_idxOf hl]
  rcases Nat.lt_trichotomy (L.idxOf K) j with q | q | q
  · exact absurd hg (hn _ q)
  · rw [q]
  · have := List.not_of_lt_findIdx (p := (· == K)) (xs := L) q
    rw [ro_eq hj] at he
    simp [he] at this
theorem idxOf_none {L : List (List Int)} {K : List Int} (hn : ∀ i, i < L.length → ro L i ≠ K) : idxK L K = -1 := by
  unfold idxK
  rw [if_neg]
  intro hm
  obtain ⟨j, hj, e⟩ := List.getElem_of_mem hm
  exact hn j hj (by rw [ro_eq hj]; exact e)
set_option maxHeartbeats 2000000 in
theorem index_any (A A2 : Option Addr) (n m c c2 B kb : Nat) (L : List (List Int)) (K : List Int) (w : World) (h : Rws w B A n L) (h2 : Ints w B A2 m K) (hb : w.cell? ⟨kb, 0, none⟩ = some (.slice A2 m c2)) (hn : n ≤ 100000) (hr : ∀ i, i < n → (ro L i).length ≤ 100000) :
    Calls Tryd.prog 32 #[.slice A n c, .func (.func 33) #[] #[.pointer (some ⟨kb, 0, none⟩)]] w fun e w' => e = .returned (.int .i64 (idxK L K)) ∧ ∃ q, w' = w.drewN q := by
  have H1 := Lib.hid h; have H2 := Lib.hid h2; have HR := Lib.hid hr; have HB := Lib.hid hb
  have l1 := Lib.hid h.1
  clear h h2 hr hb
  go_enter Tryd.func32, Tryd.ntmps32
  go_wp2_with fail
  go_loopg [8] n (fun f iv wr => ∃ j q : Nat, j + f = n ∧ iv = .int .i64 (j : Int) ∧ wr = w.drewN q ∧ Hid (∀ i, i < j → ro L i ≠ K))
  case atStart => exact ⟨0, 0, by omega, rfl, rfl, Lib.hid fun i h => absurd h (by omega)⟩
  case round =>
    obtain ⟨j, q, hjf, rfl, rfl, HP⟩ := hrel
    by_cases hlt : j < n
    · obtain ⟨f, rfl⟩ : ∃ f, gk = f + 1 := ⟨gk - 1, by omega⟩
      obtain ⟨b, o, a1, m1, k1, rfl, _, c0, hI1⟩ := H1.out.at_ hlt
      have p1 : (j : Int) < (n : Int) := by omega
      have p2 : IntKind.i64.wrap ((j : Int) + 1) = (j : Int) + 1 := i64_in _ (by omega)
      have HC := Lib.hid (isKey_any a1 A2 m1 m k1 c2 B kb _ K (w.drewN q) (hI1.drewN q) (H2.out.drewN q) HB.out (by rw [← hI1.1]; exact HR.out j hlt))
      clear hI1
      by_cases he : ro L j = K
      · have HE := Lib.hid (idxOf_first (by rw [l1.out]; exact hlt) he HP.out)
        rw [decide_eq_true he] at HC
        clear he HP
        go_wp2_with fail
        refine HC.out.mono ?_
        rintro e w' ⟨rfl, q', rfl⟩
        go_wp2_with fail
        go_ret
        exact ⟨by rw [HE.out]; rfl, q + q', by simp⟩
      · have HP2 : Hid (∀ i, i < j + 1 → ro L i ≠ K) := Lib.hid fun i hi => by
          rcases Nat.lt_or_ge i j with hl | hl
          · exact HP.out i hl
          · obtain rfl : i = j := by omega
            exact he
        rw [decide_eq_false he] at HC
        clear he HP
        go_wp2_with fail
        refine HC.out.mono ?_
        rintro e w' ⟨rfl, q', rfl⟩
        go_wp2_with fail
        go_roundg f
        case measure => omega
        case rel => exact ⟨j + 1, q + q', by omega, by simp, by simp, HP2⟩
    · obtain rfl : j = n := by omega
      have HE := Lib.hid (idxOf_none (L := L) (K := K) fun i hi => HP.out i (by rw [l1.out] at hi; exact hi))
      have p1 : ¬ (j : Int) < (j : Int) := by omega
      clear HP
      go_wp2_with fail
      go_ret
      exact ⟨by rw [HE.out]; rfl, _, rfl⟩
end Go.Proofs.YtfglajddibjnjaaDoor
