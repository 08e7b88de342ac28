/- The walks over package yard: small functions, what is done for a sign. Condition: the variable yard.kinds reads as the program's text lays it. -/
import Derived.Test.YtehecbfgdpaemaaDoorBuildB
import Derived.Test.YtehecbfgdpaemaaDoorShelf
import Derived.Test.YtehecbfgdpaemaaDoorYardD
import Derived.Test.YtehecbfgdpaemaaDoorYardP
import Derived.Laws.Rows
import Derived.IntWalk
import Derived.WalkSmall
import Derived.StillTailTactics
import Derived.Laws.EntriesVeiled
import Derived.Test.YtehecbfgdpaemaaDoorAs
namespace Go.Proofs.YtehecbfgdpaemaaDoor
open Go.RowKit YardM IntWalk
attribute [local go_sem] byte_at str_app

theorem isb_below {T e : TypeId} {B b : Nat} {bs : List Value} {w w' : World} (h : Lib.IsBuilder T e B b bs w) (hb : Below w.heap.size w w') : Lib.IsBuilder T e B b bs w' := by
  rcases h with h | h
  · have hl := h.lt
    obtain ⟨hB, v, hbk, hown, hne⟩ := h
    exact .inl ⟨hB, v, (hb.block _ hl).trans hbk, own_below hown hb (Nat.le_refl _), hne⟩
  · have hl := h.lt
    obtain ⟨hB, v, hbk, hown, hne⟩ := h
    exact .inr ⟨hB, v, (hb.block _ hl).trans hbk, own_below hown hb (Nat.le_refl _), hne⟩
abbrev S (l : List UInt8) : Value := .string ⟨l.toArray⟩
set_option maxHeartbeats 400000 in
theorem long1_yes (m : Int) (l : List UInt8) (w : World) (b off : Nat) (hA : w.cell? ⟨b, off, none⟩ = some (S l)) (h : m < (l.length : Int)) :
    Calls Tryd.prog 21 #[.int .i64 m, .slice (some ⟨b, off, none⟩) 1 1] w fun e w' => e = .returned (.iface 53 (.int .i64 4)) ∧ w = w' := by
  go_enter Tryd.func21, Tryd.ntmps21
  go_wp2_with fail
  refine wp_loop_rounds 2 ?_
  rw [rounds_succ]
  go_wp2_with fail
  go_ret
  exact ⟨rfl, rfl⟩
set_option maxHeartbeats 400000 in
theorem long1_no (m : Int) (l : List UInt8) (w : World) (b off : Nat) (hA : w.cell? ⟨b, off, none⟩ = some (S l)) (h : (l.length : Int) ≤ m) :
    Calls Tryd.prog 21 #[.int .i64 m, .slice (some ⟨b, off, none⟩) 1 1] w fun e w' => e = .returned .nilIface ∧ w = w' := by
  go_enter Tryd.func21, Tryd.ntmps21
  go_wp2_with fail
  refine wp_loop_rounds 2 ?_
  rw [rounds_succ]
  go_wp2_with fail
  rw [rounds_succ]
  go_wp2_with fail
  go_ret
  exact ⟨rfl, rfl⟩
set_option maxHeartbeats 400000 in
theorem digit_any (c : UInt8) (w : World) :
    Calls Tryd.prog 24 #[.int .u8 (c.toNat : Int)] w fun e w' => e = .returned (.bool (dig c)) ∧ w = w' := by
  by_cases h1 : (48 : Int) ≤ (c.toNat : Int)
  · by_cases h2 : (c.toNat : Int) ≤ 57
    · rw [show dig c = true from decide_eq_true (by omega)]
      go_enter Tryd.func24, Tryd.ntmps24
      go_wp2
      go_ret
      exact ⟨rfl, rfl⟩
    · rw [show dig c = false from decide_eq_false (by omega)]
      go_enter Tryd.func24, Tryd.ntmps24
      go_wp2
      go_ret
      exact ⟨rfl, rfl⟩
  · rw [show dig c = false from decide_eq_false (by omega)]
    go_enter Tryd.func24, Tryd.ntmps24
    go_wp2
    go_ret
    exact ⟨rfl, rfl⟩

theorem do_add (a b : Nat) (ha : a < 9973) (hb : b < 9973) (w : World) :
    Calls Tryd.prog 75 #[.int .i64 (a : Int), .int .i64 (b : Int)] w fun e w' => e = .returned (.int .i64 (doM 43 a b : Nat)) ∧ w' = w := by
  go_enter Tryd.func75, Tryd.ntmps75
  go_wp2
  go_ret
  exact ⟨ret_int (by simp [doM]), rfl⟩
theorem do_sub (a b : Nat) (ha : a < 9973) (hb : b < 9973) (w : World) :
    Calls Tryd.prog 76 #[.int .i64 (a : Int), .int .i64 (b : Int)] w fun e w' => e = .returned (.int .i64 (doM 45 a b : Nat)) ∧ w' = w := by
  have h0 : (0 : Int) ≤ (a : Int) - (b : Int) + 9973 := by omega
  go_enter Tryd.func76, Tryd.ntmps76
  go_wp2
  go_ret
  exact ⟨ret_int (by simp [doM]; omega), rfl⟩
theorem do_mul (a b : Nat) (ha : a < 9973) (hb : b < 9973) (w : World) :
    Calls Tryd.prog 77 #[.int .i64 (a : Int), .int .i64 (b : Int)] w fun e w' => e = .returned (.int .i64 (doM 42 a b : Nat)) ∧ w' = w := by
  have h0 : (0 : Int) ≤ (a : Int) * (b : Int) := by rw [← Int.natCast_mul]; omega
  have h1 : (a : Int) * (b : Int) ≤ 9973 * 9973 := by rw [← Int.natCast_mul]; have : a * b ≤ 9973 * 9973 := Nat.mul_le_mul (by omega) (by omega); omega
  go_enter Tryd.func77, Tryd.ntmps77
  go_wp2
  go_ret
  exact ⟨ret_int (by simp [doM]), rfl⟩
/-- The rounds of the power. -/
theorem pw_step (o a b : Nat) : (if b % 2 = 1 then o * a % 9973 else o) * (a * a % 9973) ^ (b / 2) % 9973 = o * a ^ b % 9973 := by
  have h1 : (a * a % 9973) ^ (b / 2) % 9973 = (a * a) ^ (b / 2) % 9973 := by rw [← Nat.pow_mod]
  have h2 : (a * a) ^ (b / 2) = a ^ (2 * (b / 2)) := by rw [Nat.pow_mul, Nat.pow_two]
  split
  · rename_i h
    have h3 : a ^ b = a ^ (2 * (b / 2)) * a := by rw [← Nat.pow_succ]; congr 1; omega
    rw [Nat.mul_mod, Nat.mod_mod, h1, ← Nat.mul_mod, h2, h3]
    congr 1
    rw [Nat.mul_assoc, Nat.mul_comm a]
  · rename_i h
    have h3 : a ^ b = a ^ (2 * (b / 2)) := by congr 1; omega
    rw [Nat.mul_mod, h1, ← Nat.mul_mod, h2, h3]
set_option maxHeartbeats 1000000 in
theorem do_pow (a b : Nat) (ha : a < 9973) (hb : b < 9973) (w : World) :
    Calls Tryd.prog 78 #[.int .i64 (a : Int), .int .i64 (b : Int)] w fun e w' => e = .returned (.int .i64 (doM 94 a b : Nat)) ∧ w' = w := by
  have hT : a ^ b % 9973 = doM 94 a b := rfl
  generalize doM 94 a b = T at *
  go_enter Tryd.func78, Tryd.ntmps78
  go_wp2_with fail
  go_loopg [0, 1, 5] 14 (fun f av bv ov wr => ∃ x y o : Nat, av = .int .i64 (x : Int) ∧ bv = .int .i64 (y : Int) ∧ ov = .int .i64 (o : Int) ∧ x < 9973 ∧ o < 9973 ∧ y < 2 ^ f ∧ y < 9973 ∧ o * x ^ y % 9973 = T ∧ wr = w)
  case atStart => exact ⟨a, b, 1, rfl, rfl, rfl, ha, by omega, by omega, hb, by rw [Nat.one_mul]; exact hT, rfl⟩
  case round =>
    obtain ⟨x, y, o, rfl, rfl, rfl, hx, ho, hy, hy2, hTT, rfl⟩ := hrel
    by_cases h0 : 0 < y
    · obtain ⟨f, rfl⟩ : ∃ f, gk = f + 1 := ⟨gk - 1, by
        cases gk with
        | zero => simp at hy; omega
        | succ g => rfl⟩
      have hy' : y / 2 < 2 ^ f := by rw [Nat.pow_succ] at hy; omega
      have hs := pw_step o x y
      rw [hTT] at hs
      have HS := Lib.hid hs
      have HY := Lib.hid hy'
      clear hs hTT hT hy hy'
      have g0 : (0 : Int) ≤ (x : Int) * (x : Int) := by rw [← Int.natCast_mul]; omega
      have g1 : (x : Int) * (x : Int) ≤ 9973 * 9973 := by rw [← Int.natCast_mul]; have : x * x ≤ 9973 * 9973 := Nat.mul_le_mul (by omega) (by omega); omega
      have g2 : (0 : Int) ≤ (o : Int) * (x : Int) := by rw [← Int.natCast_mul]; omega
      have g3 : (o : Int) * (x : Int) ≤ 9973 * 9973 := by rw [← Int.natCast_mul]; have : o * x ≤ 9973 * 9973 := Nat.mul_le_mul (by omega) (by omega); omega
      have hl1 : x * x % 9973 < 9973 := Nat.mod_lt _ (by decide)
      have hl2 : o * x % 9973 < 9973 := Nat.mod_lt _ (by decide)
      rcases Nat.mod_two_eq_zero_or_one y with hm | hm
      all_goals
        have hm' : (y : Int) % 2 = ((y % 2 : Nat) : Int) := by omega
        rw [hm] at hm' HS
        go_wp2_with fail
        go_roundg f
        case measure => omega
        case rel =>
          first
            | exact ⟨x * x % 9973, y / 2, o, by simp, by simp, rfl, hl1, ho, HY.out, by omega, by simpa using HS.out, rfl⟩
            | exact ⟨x * x % 9973, y / 2, o * x % 9973, by simp, by simp, by simp, hl1, hl2, HY.out, by omega, by simpa using HS.out, rfl⟩
    · obtain rfl : y = 0 := by omega
      have hTo : o = T := by rw [Nat.pow_zero, Nat.mul_one, Nat.mod_eq_of_lt ho] at hTT; exact hTT
      subst hTo
      clear hTT hT
      go_wp2_with fail
      go_ret
      exact ⟨rfl, rfl⟩
theorem call_enter {P : Program} {f : FuncId} {fn : Func} {c : Code} (hf : P.funcs[f]? = some fn) (hname : (fn.name == "runtime.NumGoroutine") = false) (hb : fn.body = some c) (args : Array Value) (w : World) :
    (callFunc f args).run P w = .ok (.enter f args) w := by
  have h1 : fn.name ≠ "runtime.NumGoroutine" := by simpa using hname
  simp [callFunc, hf, h1, hb]
/-- What a sign does to two numbers. -/
theorem do_of {c : UInt8} (h : 0 < rk c) : ∃ F, doV c = .func (.func F) #[] #[] ∧ (∀ args w, (callFunc F args).run Tryd.prog w = .ok (.enter F args) w) ∧ ∀ (a b : Nat) (w : World), a < 9973 → b < 9973 →
    Calls Tryd.prog F #[.int .i64 (a : Int), .int .i64 (b : Int)] w fun e w' => e = .returned (.int .i64 (doM c a b : Nat)) ∧ w' = w := by
  by_cases q1 : c = 43
  · subst q1; exact ⟨_, rfl, call_enter Tryd.func75 (by kernel_rfl) rfl, fun a b w ha hb => do_add a b ha hb w⟩
  by_cases q2 : c = 45
  · subst q2; exact ⟨_, rfl, call_enter Tryd.func76 (by kernel_rfl) rfl, fun a b w ha hb => do_sub a b ha hb w⟩
  by_cases q3 : c = 42
  · subst q3; exact ⟨_, rfl, call_enter Tryd.func77 (by kernel_rfl) rfl, fun a b w ha hb => do_mul a b ha hb w⟩
  by_cases q4 : c = 94
  · subst q4; exact ⟨_, rfl, call_enter Tryd.func78 (by kernel_rfl) rfl, fun a b w ha hb => do_pow a b ha hb w⟩
  · exfalso
    unfold rk at h
    simp [q1, q2, q3, q4] at h
theorem do_none {c : UInt8} (h : rk c = 0) : doV c = .nilFunc := by
  have h1 : c ≠ 43 := by intro e; subst e; exact absurd h (by decide)
  have h2 : c ≠ 45 := by intro e; subst e; exact absurd h (by decide)
  have h3 : c ≠ 42 := by intro e; subst e; exact absurd h (by decide)
  have h4 : c ≠ 94 := by intro e; subst e; exact absurd h (by decide)
  unfold doV
  simp [h1, h2, h3, h4]
end Go.Proofs.YtehecbfgdpaemaaDoor
