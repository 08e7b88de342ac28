/- The document's All, Has; the steps of the law TopBook. No condition. -/
import Derived.Test.YtgmmlblefealjaaDoorWords
import Derived.IntWalk
namespace Go.Proofs.YtgmmlblefealjaaDoor
open Go.RowKit IntWalk

theorem in2_any (n lo hi : Int) (w : World) :
    Calls Tryd.prog 34 #[.int .i64 n, .int .i64 lo, .int .i64 hi] w fun e w' => e = .returned (.bool (decide (lo ≤ n ∧ n ≤ hi))) ∧ w = w' := by
  by_cases h1 : lo ≤ n
  · by_cases h2 : n ≤ hi
    all_goals
      go_enter Tryd.func34, Tryd.ntmps34
      go_wp2
      go_ret
      exact ⟨by simp [h1, h2], rfl⟩
  · go_enter Tryd.func34, Tryd.ntmps34
    go_wp2
    go_ret
    exact ⟨ret_bool (by simp [show ¬ lo ≤ n from by omega]), rfl⟩
set_option maxHeartbeats 1000000 in
theorem all2_any (A : Option Addr) (n c B : Nat) (L : List Int) (lo hi : Int) (w : World) (hL : Ints w B A n L) (h : ∀ k, k < n → lo ≤ gi L k ∧ gi L k ≤ hi) (hn : n ≤ 100000) :
    Calls Tryd.prog 17 #[.slice A n c, .int .i64 lo, .int .i64 hi] w fun e w' => e = .returned (.bool true) ∧ w = w' := by
  have HL := Lib.hid hL; have HA := Lib.hid h
  clear hL h
  go_enter Tryd.func17, Tryd.ntmps17
  go_wp2_with fail
  go_loopg [7] n (fun f iv wr => ∃ k : Nat, k + f = n ∧ iv = .int .i64 (k : Int) ∧ w = wr)
  case atStart => exact ⟨0, by omega, rfl, rfl⟩
  case round =>
    obtain ⟨k, hkf, rfl, rfl⟩ := hrel
    by_cases hlt : k < n
    · obtain ⟨f, rfl⟩ : ∃ f, gk = f + 1 := ⟨gk - 1, by omega⟩
      obtain ⟨b, off, rfl, _, hc⟩ := HL.out.at_ hlt
      obtain ⟨h1, h2⟩ := HA.out k hlt
      have p1 : IntKind.i64.wrap ((k : Int) + 1) = (k : Int) + 1 := i64_in _ (by omega)
      have p2 : (k : Int) < (n : Int) := by omega
      generalize gi L k = v at *
      go_wp2_with fail
      refine (in2_any v lo hi w).mono ?_
      rintro e w' ⟨rfl, rfl⟩
      rw [decide_eq_true (show lo ≤ v ∧ v ≤ hi from ⟨h1, h2⟩)]
      go_wp2_with fail
      go_roundg f
      case measure => omega
      case rel => exact ⟨k + 1, by omega, by simp, rfl⟩
    · have p2 : ¬ (k : Int) < (n : Int) := by omega
      go_wp2_with fail
      go_ret
      exact ⟨rfl, rfl⟩
set_option maxHeartbeats 1000000 in
theorem has3_any (A : Option Addr) (n c B : Nat) (L : List Int) (x : Int) (w : World) (hL : Ints w B A n L) (hn : n ≤ 100000) :
    Calls Tryd.prog 18 #[.slice A n c, .int .i64 x] w fun e w' => e = .returned (.bool (decide (x ∈ L))) ∧ w = w' := by
  have HL := Lib.hid hL
  have hlen := hL.1
  clear hL
  go_enter Tryd.func18, Tryd.ntmps18
  go_wp2_with fail
  go_loopg [5] n (fun f iv wr => ∃ k : Nat, k + f = n ∧ iv = .int .i64 (k : Int) ∧ w = wr ∧ Hid (∀ j, j < k → gi L j ≠ x))
  case atStart => exact ⟨0, by omega, rfl, rfl, Lib.hid fun j hj => absurd hj (by omega)⟩
  case round =>
    obtain ⟨k, hkf, rfl, rfl, HN⟩ := hrel
    by_cases hlt : k < n
    · obtain ⟨f, rfl⟩ : ∃ f, gk = f + 1 := ⟨gk - 1, by omega⟩
      have HM : Hid (gi L k ∈ L) := Lib.hid (gi_mem (by omega))
      obtain ⟨b, off, rfl, _, hc⟩ := HL.out.at_ hlt
      have p1 : IntKind.i64.wrap ((k : Int) + 1) = (k : Int) + 1 := i64_in _ (by omega)
      have p2 : (k : Int) < (n : Int) := by omega
      by_cases he : gi L k = x
      · rw [he] at HM hc
        have q1 : (x == x) = true := by simp
        clear he
        go_wp2_with fail
        go_ret
        exact ⟨ret_bool (by simp [HM.out]), rfl⟩
      · have q1 : (gi L k == x) = false := by simpa using he
        have HN2 : Hid (∀ j, j < k + 1 → gi L j ≠ x) := Lib.hid fun j hj => by
          rcases Nat.lt_or_ge j k with hl | hl
          · exact HN.out j hl
          · obtain rfl : j = k := by omega
            exact he
        clear he HM
        generalize gi L k = v at hc q1
        go_wp2_with fail
        go_roundg f
        case measure => omega
        case rel => exact ⟨k + 1, by omega, by simp, rfl, HN2⟩
    · have p2 : ¬ (k : Int) < (n : Int) := by omega
      have HX : Hid (x ∉ L) := Lib.hid fun hm => by
        obtain ⟨j, hj, e⟩ := List.getElem_of_mem hm
        exact HN.out j (by omega) (by rw [gi_eq hj]; exact e)
      go_wp2_with fail
      go_ret
      exact ⟨ret_bool (by simp [HX.out]), rfl⟩
end Go.Proofs.YtgmmlblefealjaaDoor
