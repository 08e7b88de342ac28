/- The walk over package morse's Word. -/
import Derived.Test.YtaoppfcniifjhaaDoorBuildB
import Derived.Test.YtaoppfcniifjhaaDoorShelf
import Derived.Test.YtaoppfcniifjhaaDoorMorseY
namespace Go.Proofs.YtaoppfcniifjhaaDoor
open Go.RowKit MorseM IntWalk

set_option maxHeartbeats 400000 in
theorem within_any (n lo hi : Int) (w : World) :
    Calls Tryd.prog 12 #[.int .i64 n, .int .i64 lo, .int .i64 hi] w fun e w' => e = .returned (.bool (decide (lo ≤ n ∧ n ≤ hi))) ∧ w = w' := by
  by_cases h1 : lo ≤ n
  · by_cases h2 : n ≤ hi
    all_goals
      go_enter Tryd.func12, Tryd.ntmps12
      go_wp2
      go_ret
      exact ⟨by simp [h1, h2], rfl⟩
  · go_enter Tryd.func12, Tryd.ntmps12
    go_wp2
    go_ret
    exact ⟨ret_bool (by simp [show ¬ lo ≤ n from by omega]), rfl⟩

theorem isb_below {T e : TypeId} {B b : Nat} {bs : List Value} {w w' : World} (h : Lib.IsBuilder T e B b bs w) (hb : Below w.heap.size w w') : Lib.IsBuilder T e B b bs w' := by
  rcases h with h | h
  · have hl := h.lt
    obtain ⟨hB, v, hbk, hown, hne⟩ := h
    exact .inl ⟨hB, v, (hb.block _ hl).trans hbk, own_below hown hb (Nat.le_refl _), hne⟩
  · have hl := h.lt
    obtain ⟨hB, v, hbk, hown, hne⟩ := h
    exact .inr ⟨hB, v, (hb.block _ hl).trans hbk, own_below hown hb (Nat.le_refl _), hne⟩

theorem odGo_step {f i o : Nat} (h : 0 < i) : odGo (f + 1) i o = odGo f (i / 2) (o ^^^ (i % 2)) := by simp [odGo, h]
theorem odGo_zero (f o : Nat) : odGo f 0 o = o := by cases f <;> simp [odGo]
theorem odGo_more : ∀ (f g i o : Nat), i < 2 ^ f → f ≤ g → odGo g i o = odGo f i o
  | 0, g, i, o, h, _ => by
    obtain rfl : i = 0 := by simpa using h
    rw [odGo_zero, odGo_zero]
  | f + 1, 0, i, o, _, hg => absurd hg (by omega)
  | f + 1, g + 1, i, o, h, hg => by
    by_cases hi : 0 < i
    · rw [odGo_step hi, odGo_step hi]
      exact odGo_more f g _ _ (by rw [Nat.pow_succ] at h; omega) (by omega)
    · simp [odGo, hi]
theorem wGo_word (n : Nat) : ∀ f i acc, wGo f i acc = acc ++ ((List.range f).map fun j => sign (i + j))
  | 0, i, acc => by simp [wGo]
  | f + 1, i, acc => by
    rw [wGo, wGo_word n f, List.range_succ_eq_map]
    simp [List.map_map, Function.comp_def, Nat.add_assoc, Nat.add_comm 1]
theorem od_01 (i : Nat) : ∀ f o, (o = 0 ∨ o = 1) → (odGo f i o = 0 ∨ odGo f i o = 1) := by
  intro f
  induction f generalizing i with
  | zero => intro o ho; simpa [odGo] using ho
  | succ f ih =>
    intro o ho
    by_cases hi : 0 < i
    · rw [odGo_step hi]
      apply ih
      rcases ho with rfl | rfl <;> rcases Nat.mod_two_eq_zero_or_one i with h | h <;> rw [h] <;> decide
    · simp [odGo, hi]; exact ho

set_option maxRecDepth 100000 in
set_option maxHeartbeats 400000 in
theorem word_no (n : Int) (w : World) (h : ¬ (0 ≤ n ∧ n ≤ 200)) :
    Calls Tryd.prog 6 #[.int .i64 n] w fun e w' => e = .returned (.tuple #[S [], .iface 36 (.int .i64 1)]) ∧ w = w' := by
  have HD := Lib.hid (show decide (0 ≤ n ∧ n ≤ 200) = false from decide_eq_false h)
  clear h
  go_enter Tryd.func6, Tryd.ntmps6
  go_wp2_with fail
  refine (within_any _ _ _ _).mono ?_
  rintro e w' ⟨rfl, rfl⟩
  rw [HD.out]
  go_wp2_with fail
  go_ret2
  exact ⟨rfl, rfl⟩

set_option maxRecDepth 100000 in
set_option maxHeartbeats 1000000 in
theorem word_ok (n : Nat) (w : World) (h : n ≤ 200) :
    Calls Tryd.prog 6 #[.int .i64 (n : Int)] w fun e w' => e = .returned (.tuple #[S (word n), .nilIface]) ∧ Below w.heap.size w w' := by
  have HD := Lib.hid (show decide ((0 : Int) ≤ (n : Int) ∧ (n : Int) ≤ 200) = true from decide_eq_true ⟨by omega, by omega⟩)
  go_enter Tryd.func6, Tryd.ntmps6
  go_wp2_with fail
  refine (within_any _ _ _ _).mono ?_
  rintro e w' ⟨rfl, rfl⟩
  rw [HD.out]
  go_wp2_with fail
  go_loopg [13] n (fun f kv wr => ∃ k : Nat, k + f = n ∧ kv = .int .i64 k ∧
      Lib.IsBuilder 39 5 w.heap.size w.heap.size (Lib.byteCells (word k)) wr ∧ Below w.heap.size w wr)
  case atStart => exact ⟨0, by omega, rfl, Lib.fresh_isBuilder _ _ w, (Below.refl _ _).alloc (Nat.le_refl _) _⟩
  case round =>
    obtain ⟨k, hkf, rfl, hisb, hB⟩ := hrel
    have HISB := Lib.hid hisb; clear hisb
    have HB := Lib.hid hB; clear hB
    by_cases hlt : k < n
    · obtain ⟨f, rfl⟩ : ∃ f, gk = f + 1 := ⟨gk - 1, by omega⟩
      go_wp2_with fail
      go_loopg [5, 6] 8 (fun q iv ov wi => ∃ i o : Nat, iv = .int .i64 (i : Int) ∧ ov = .int .i64 (o : Int) ∧ (o = 0 ∨ o = 1) ∧ i < 2 ^ q ∧ i ≤ 200 ∧ odGo q i o = od k ∧ wi = wr)
      case atStart => exact ⟨k, 0, rfl, rfl, .inl rfl, by omega, by omega, (odGo_more 8 64 k 0 (by omega) (by omega)).symm, rfl⟩
      case round =>
        obtain ⟨i, o, rfl, rfl, ho, hi, hi2, hod, rfl⟩ := hrel
        by_cases h0 : 0 < i
        · obtain ⟨q, rfl⟩ : ∃ q, gk = q + 1 := ⟨gk - 1, by
            cases gk with
            | zero => simp at hi; omega
            | succ g => rfl⟩
          rw [odGo_step h0] at hod
          have HOD := Lib.hid hod; clear hod
          have hm := Nat.mod_two_eq_zero_or_one i
          have hi' : i / 2 < 2 ^ q := by rw [Nat.pow_succ] at hi; omega
          rcases ho with rfl | rfl <;> rcases hm with hm | hm
          all_goals
            have hm' : (i : Int) % 2 = ((i % 2 : Nat) : Int) := by omega
            rw [hm] at HOD hm'
            go_wp2_with fail
            go_roundg q
            case measure => omega
            case rel =>
              first
                | exact ⟨i / 2, 0, by simp, congrArg (Value.int .i64) (by decide), .inl rfl, hi', by omega, by simpa using HOD.out, rfl⟩
                | exact ⟨i / 2, 1, by simp, congrArg (Value.int .i64) (by decide), .inr rfl, hi', by omega, by simpa using HOD.out, rfl⟩
        · obtain rfl : i = 0 := by omega
          rw [odGo_zero] at hod
          have hsg : sign k = if o = 0 then 48 else 49 := by unfold sign; rw [hod]
          have HOD := Lib.hid hsg; clear hsg hod
          have HZ := HB.out.size
          have hws := word_succ k
          have HWS := Lib.hid hws; clear hws
          have hwl := word_len k
          have HWL := Lib.hid hwl; clear hwl
          rcases ho with rfl | rfl
          all_goals
            go_wp2_with fail
            refine (writeByte_lit w.heap.size w.heap.size (word k) (sign k) _ ?hv _ HISB.out (by rw [HWL.out]; omega) HZ).mono ?_
            case hv => rw [HOD.out]; rfl
            rintro e w2 ⟨rfl, hisb2, hb2, _⟩
            rw [← HWS.out] at hisb2
            have HISB2 := Lib.hid hisb2; clear hisb2
            have HB2 := Lib.hid (HB.out.trans hb2); clear hb2
            go_wp2_with fail
            go_roundg f
            case measure => omega
            case rel => exact ⟨k + 1, by omega, by simp, HISB2.out, HB2.out⟩
    · obtain rfl : k = n := by omega
      have HZ := HB.out.size
      go_wp2_with fail
      refine (Tryd.Builder_String_any w.heap.size w.heap.size (word k) wr HISB.out HZ).mono ?_
      rintro e w2 ⟨rfl, hb2⟩
      go_wp2_with fail
      go_ret2
      exact ⟨rfl, HB.out.trans hb2⟩
end Go.Proofs.YtaoppfcniifjhaaDoor
