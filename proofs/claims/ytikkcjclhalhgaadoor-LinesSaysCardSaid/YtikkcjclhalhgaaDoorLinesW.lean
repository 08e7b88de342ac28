/- The walks over package lines. -/
import Derived.Test.YtikkcjclhalhgaaDoorWords
import Derived.Test.YtikkcjclhalhgaaDoorAs
import Derived.Test.YtikkcjclhalhgaaDoorLinesM
namespace Go.Proofs.YtikkcjclhalhgaaDoor
open Go.RowKit LinesM

set_option maxHeartbeats 400000 in
theorem within_any (n lo hi : Int) (w : World) :
    Calls Tryd.prog 15 #[.int .i64 n, .int .i64 lo, .int .i64 hi] w fun e w' => e = .returned (.bool (decide (lo ≤ n ∧ n ≤ hi))) ∧ w = w' := by
  by_cases h1 : lo ≤ n
  · by_cases h2 : n ≤ hi
    all_goals
      go_enter Tryd.func15, Tryd.ntmps15
      go_wp2
      go_ret
      exact ⟨by simp [h1, h2], rfl⟩
  · go_enter Tryd.func15, Tryd.ntmps15
    go_wp2
    go_ret
    exact ⟨ret_bool (by simp [show ¬ lo ≤ n from by omega]), rfl⟩

theorem left_succ (wide : Int) (l : List Int) (k : Nat) (hk : k < l.length) : left wide (l.take (k+1)) = left wide (l.take k) - (gi l k + 1) := by
  unfold left
  rw [take_succ_gi hk, List.map_append, List.sum_append]
  simp; omega
theorem left_bd (wide : Int) (l : List Int) (h : ∀ x ∈ l, 0 ≤ x ∧ x ≤ 30) (k : Nat) : left wide (l.take k) ≤ wide + 1 ∧ wide + 1 - 31 * k ≤ left wide (l.take k) := by
  unfold left
  induction l generalizing k with
  | nil => simp; omega
  | cons a l ih =>
    cases k with
    | zero => simp
    | succ k =>
      have h1 := h a (by simp)
      have h2 := ih (fun x hx => h x (by simp [hx])) k
      simp only [List.take_succ_cons, List.map_cons, List.sum_cons]
      omega

theorem left_le (wide : Int) (l : List Int) (h : ∀ x ∈ l, 0 ≤ x ∧ x ≤ 30) (hk : 0 < l.length) (hw : wide ≤ 30) : left wide l ≤ 30 := by
  cases l with
  | nil => simp at hk
  | cons a l =>
    have h1 := h a (by simp)
    have h2 := (left_bd wide l (fun x hx => h x (by simp [hx])) l.length).1
    rw [List.take_length] at h2
    unfold left at h2 ⊢
    simp only [List.map_cons, List.sum_cons]
    omega
set_option maxHeartbeats 400000 in
theorem left_any (wide : Int) (A : Option Addr) (n c : Nat) (l : List Int) (w : World) (B : Nat) (hA : Ints w B A n l) (hw0 : 0 ≤ wide) (hw1 : wide ≤ 30) (hn : n ≤ 21)
    (hl : ∀ x ∈ l, 0 ≤ x ∧ x ≤ 30) :
    Calls Tryd.prog 17 #[.int .i64 wide, .slice A n c] w fun e w' => e = .returned (.int .i64 (left wide l)) ∧ w = w' := by
  go_enter Tryd.func17, Tryd.ntmps17
  go_wp2
  go_loop [5, 12] (fun t i => ∃ k : Nat, k ≤ n ∧ i = .int .i64 k ∧ t = .int .i64 (left wide (l.take k))) (fun _ i => n - (intOf i).toNat)
  case atStart => exact ⟨0, Nat.zero_le _, rfl, by simp [left]⟩
  case round =>
    obtain ⟨k, hk, rfl, rfl⟩ := hrel
    have hb := left_bd wide l hl k
    by_cases hlt : k < n
    · obtain ⟨b, off, rfl, hB, hc⟩ := hA.at_ hlt
      have HS := Lib.hid (left_succ wide l k (by have := hA.1; omega))
      have hx : 0 ≤ gi l k ∧ gi l k ≤ 30 := by
        have := hA.1
        exact hl _ (gi_mem (by omega))
      go_wp2
      go_round
      case rel => exact ⟨k + 1, by omega, by go_num, by rw [HS.out]⟩
      case measure => simp [intOf]; omega
    · go_wp2
      go_ret
      have := hA.1
      exact ⟨by rw [List.take_of_length_le (by omega)]; rfl, rfl⟩

theorem chk_calls_aux (wide : Int) (l : List Int) (k : Nat) (hk : k < l.length) (hb : ¬ (1 ≤ gi l k ∧ gi l k ≤ wide)) (hw : 1 ≤ wide ∧ wide ≤ 30) (hl : l.length ≤ 20) : chk wide l = 1 := by
  unfold chk
  rw [if_pos hw, if_neg (by omega), if_neg]
  intro hall
  exact hb (hall _ (gi_mem hk))
theorem chk_ok (wide : Int) (l : List Int) (h : ∀ j, j < l.length → 1 ≤ gi l j ∧ gi l j ≤ wide) (hw : 1 ≤ wide ∧ wide ≤ 30) (hl : l.length ≤ 20) : chk wide l = 0 := by
  unfold chk
  rw [if_pos hw, if_neg (by omega), if_pos]
  intro x hx
  obtain ⟨j, hj, rfl⟩ := List.mem_iff_getElem.1 hx
  have := h j hj
  rwa [gi_eq hj] at this

set_option maxHeartbeats 400000 in
theorem check_any (wide : Int) (A : Option Addr) (n c : Nat) (l : List Int) (w : World) (B : Nat) (hA : Ints w B A n l) (hm : n ≤ 9223372036854775807) :
    Calls Tryd.prog 6 #[.int .i64 wide, .slice A n c] w fun e w' => e = .returned (errV (chk wide l)) ∧ w = w' := by
  have hln := hA.1
  by_cases hw : 1 ≤ wide ∧ wide ≤ 30
  · have HW := Lib.hid (show decide (1 ≤ wide ∧ wide ≤ 30) = true from by simpa using hw)
    by_cases h20 : n ≤ 20
    · go_enter Tryd.func6, Tryd.ntmps6
      go_wp2_with fail
      refine (within_any _ _ _ _).mono ?_
      rintro e w' ⟨rfl, rfl⟩
      rw [HW.out]
      obtain ⟨hw1, hw2⟩ := hw
      go_wp2_with fail
      go_loop [17] (fun i => ∃ k : Nat, k ≤ n ∧ i = .int .i64 k ∧ ∀ j, j < k → 1 ≤ gi l j ∧ gi l j ≤ wide) (fun i => n - (intOf i).toNat)
      case atStart => exact ⟨0, Nat.zero_le _, rfl, fun j h => absurd h (by omega)⟩
      case round =>
        obtain ⟨k, hk, rfl, hall⟩ := hrel
        have HA := Lib.hid hall; clear hall
        by_cases hlt : k < n
        · obtain ⟨b, off, rfl, hB, hc⟩ := hA.at_ hlt
          by_cases hok : 1 ≤ gi l k ∧ gi l k ≤ wide
          · have HO := Lib.hid (show decide (1 ≤ gi l k ∧ gi l k ≤ wide) = true from by simpa using hok)
            have HO' := Lib.hid hok
            clear hok
            go_wp2_with fail
            refine (within_any _ _ _ _).mono ?_
            rintro e w' ⟨rfl, rfl⟩
            rw [HO.out]
            go_wp2_with fail
            go_round
            case rel => exact ⟨k + 1, by omega, by go_num, fun j hj => by
              by_cases e : j = k
              · rw [e]; exact HO'.out
              · exact HA.out j (by omega)⟩
            case measure => simp [intOf]; omega
          · have HO := Lib.hid (show decide (1 ≤ gi l k ∧ gi l k ≤ wide) = false from by simpa using hok)
            have Hc := Lib.hid (chk_calls_aux wide l k (by omega) hok ⟨hw1, hw2⟩ (by omega))
            clear hok
            go_wp2_with fail
            refine (within_any _ _ _ _).mono ?_
            rintro e w' ⟨rfl, rfl⟩
            rw [HO.out]
            go_wp2_with fail
            go_ret
            exact ⟨by rw [Hc.out]; rfl, rfl⟩
        · have Hc := Lib.hid (chk_ok wide l (fun j hj => HA.out j (by omega)) ⟨hw1, hw2⟩ (by omega))
          go_wp2_with fail
          go_ret
          exact ⟨by rw [Hc.out]; rfl, rfl⟩
    · go_enter Tryd.func6, Tryd.ntmps6
      go_wp2_with fail
      refine (within_any _ _ _ _).mono ?_
      rintro e w' ⟨rfl, rfl⟩
      rw [HW.out]
      have hc : chk wide l = 4 := by unfold chk; rw [if_pos hw, if_pos (by omega)]
      have Hc := Lib.hid hc
      clear hc
      go_wp2_with fail
      go_ret
      exact ⟨by rw [Hc.out]; rfl, rfl⟩
  · have HW := Lib.hid (show decide (1 ≤ wide ∧ wide ≤ 30) = false from by simpa using hw)
    have hc : chk wide l = 1 := by unfold chk; rw [if_neg hw]
    have Hc := Lib.hid hc
    clear hc hw
    go_enter Tryd.func6, Tryd.ntmps6
    go_wp2_with fail
    refine (within_any _ _ _ _).mono ?_
    rintro e w' ⟨rfl, rfl⟩
    rw [HW.out]
    go_wp2_with fail
    go_ret
    exact ⟨by rw [Hc.out]; rfl, rfl⟩

theorem sum_bd (l : List Int) (h : ∀ x ∈ l, 0 ≤ x ∧ x ≤ 30) (k : Nat) : 0 ≤ (l.take k).sum ∧ (l.take k).sum ≤ 30 * k := by
  induction l generalizing k with
  | nil => simp; omega
  | cons a l ih =>
    cases k with
    | zero => simp
    | succ k =>
      have h1 := h a (by simp)
      have h2 := ih (fun x hx => h x (by simp [hx])) k
      simp only [List.take_succ_cons, List.sum_cons]
      omega
theorem sum_succ (l : List Int) (k : Nat) (hk : k < l.length) : (l.take (k+1)).sum = (l.take k).sum + gi l k := by
  rw [take_succ_gi hk, List.sum_append]
  simp
theorem left_sum (wide : Int) (l : List Int) : left wide l = wide - (l.length - 1) - l.sum := by
  unfold left
  induction l with
  | nil => simp
  | cons a l ih =>
    simp only [List.map_cons, List.sum_cons, List.length_cons]
    omega

set_option maxHeartbeats 400000 in
theorem room_any (wide : Int) (A : Option Addr) (n c : Nat) (l : List Int) (w : World) (B : Nat) (hA : Ints w B A n l) (hw0 : 0 ≤ wide) (hw1 : wide ≤ 30) (hn : n ≤ 21)
    (hl : ∀ x ∈ l, 0 ≤ x ∧ x ≤ 30) :
    Calls Tryd.prog 16 #[.int .i64 wide, .slice A n c] w fun e w' => e = .returned (.int .i64 (left wide l)) ∧ w = w' := by
  go_enter Tryd.func16, Tryd.ntmps16
  go_wp2
  go_loop [5, 6] (fun t i => ∃ k : Nat, k ≤ n ∧ i = .int .i64 k ∧ t = .int .i64 (wide - (n - 1) - (l.take k).sum)) (fun _ i => n - (intOf i).toNat)
  case atStart => exact ⟨0, Nat.zero_le _, rfl, by simp⟩
  case round =>
    obtain ⟨k, hk, rfl, rfl⟩ := hrel
    have hb := sum_bd l hl k
    by_cases hlt : k < n
    · obtain ⟨b, off, rfl, hB, hc⟩ := hA.at_ hlt
      have HS := Lib.hid (sum_succ l k (by have := hA.1; omega))
      have hx : 0 ≤ gi l k ∧ gi l k ≤ 30 := by
        have := hA.1
        exact hl _ (gi_mem (by omega))
      go_wp2
      go_round
      case rel => exact ⟨k + 1, by omega, by go_num, by rw [HS.out]; go_num⟩
      case measure => simp [intOf]; omega
    · go_wp2
      go_ret
      have := hA.1
      exact ⟨ret_int (by rw [List.take_of_length_le (by omega), left_sum]; omega), rfl⟩

set_option maxHeartbeats 400000 in
theorem ints_any (A A' : Option Addr) (n n' c c' : Nat) (l l' : List Int) (w : World) (B : Nat) (hA : Ints w B A n l) (hA' : Ints w B A' n' l') (hm : n ≤ 9223372036854775807) (hm' : n' ≤ 9223372036854775807) :
    Calls Tryd.prog 11 #[.slice A n c, .slice A' n' c'] w fun e w' => e = .returned (.bool (decide (l = l'))) ∧ Below w.heap.size w w' := by
  by_cases hnn : n = n'
  · subst hnn
    go_enter Tryd.func11, Tryd.ntmps11
    go_wp2_with fail
    go_loopg [5] n (fun f i wr => ∃ k : Nat, k + f = n ∧ i = .int .i64 k ∧ Below w.heap.size w wr ∧ Ints wr B A n l ∧ Ints wr B A' n l' ∧ l.take k = l'.take k)
    case atStart => exact ⟨0, by omega, rfl, Below.refl _ _, hA, hA', by simp⟩
    case round =>
      obtain ⟨k, hk, rfl, hB, hA, hA', ht⟩ := hrel
      have HT := Lib.hid ht; clear ht
      have hl1 := hA.1
      have hl2 := hA'.1
      by_cases hlt : k < n
      · obtain ⟨f, rfl⟩ : ∃ f, gk = f + 1 := ⟨gk - 1, by omega⟩
        obtain ⟨b, off, hAe, hBk, hc⟩ := hA.at_ hlt
        obtain ⟨b', off', hAe', hBk', hc'⟩ := hA'.at_ hlt
        subst hAe hAe'
        by_cases he : gi l k = gi l' k
        · have HE := Lib.hid he
          rw [he] at hc
          clear he
          go_wp2_with fail
          go_quiet (fail)
          go_wp2_with fail
          go_roundg f
          case measure => omega
          case rel =>
            refine ⟨k + 1, by omega, by simp, below_drewN hB _, hA.drewN _, hA'.drewN _, ?_⟩
            rw [take_succ_gi (by omega), take_succ_gi (by omega), HT.out, HE.out]
        · have he' : (gi l k == gi l' k) = false := by simpa using he
          have he2 : (gi l k != gi l' k) = true := by simpa using he
          have hne : l ≠ l' := fun e => he (by rw [e])
          have HN := Lib.hid hne
          clear hne
          go_wp2_with fail
          go_quiet (fail)
          go_wp2_with fail
          go_ret
          exact ⟨ret_bool (by simp [HN.out]), below_drewN hB _⟩
      · have HN := Lib.hid (show l = l' by
          have h := HT.out
          rwa [List.take_of_length_le (by omega), List.take_of_length_le (by omega)] at h)
        go_wp2_with fail
        go_ret
        exact ⟨ret_bool (by simp [HN.out]), hB⟩
  · have hne : l ≠ l' := fun e => hnn (by rw [← hA.1, ← hA'.1, e])
    have HN := Lib.hid hne
    have hnn' : ((n : Int) == (n' : Int)) = false := by simp; omega
    go_enter Tryd.func11, Tryd.ntmps11
    go_wp2_with fail
    go_ret
    exact ⟨ret_bool (by simp [HN.out]), Below.refl _ _⟩
end Go.Proofs.YtikkcjclhalhgaaDoor
