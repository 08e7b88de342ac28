/- yard.Value's walk, the closed fact, and the laws YardFirst, YardBrackets, YardRead. Condition: the variable yard.kinds reads as the program's text lays it. -/
import Derived.Test.YtehecbfgdpaemaaDoorYardQ
namespace Go.Proofs.YtehecbfgdpaemaaDoor
open Go.RowKit YardM IntWalk
attribute [local go_sem] byte_at str_app

theorem ret_val {v v' : Value} (h : v = v') : Ending.returned v = .returned v' := by rw [h]
set_option maxRecDepth 100000 in
set_option maxHeartbeats 1000000 in
theorem read_long (l : List UInt8) (w : World) (hl : 24 < l.length) :
    Calls Tryd.prog 20 #[S l] w fun e w' => e = .returned (.tuple #[.int .i64 0, .iface 53 (.int .i64 4)]) ∧ Below w.heap.size w w' := by
  go_enter Tryd.func20, Tryd.ntmps20
  go_wp2_with fail
  refine (long1_yes 24 l _ _ _ ?_ (by omega)).mono ?_
  · simp [World.cell?_alloc_new]
  rintro e w' ⟨rfl, rfl⟩
  go_wp2_with fail
  go_ret2
  exact ⟨rfl, (Below.refl _ _).alloc (Nat.le_refl _) _⟩
set_option maxRecDepth 100000 in
set_option maxHeartbeats 1000000 in
theorem post_long (l : List UInt8) (w : World) (hl : 24 < l.length) :
    Calls Tryd.prog 10 #[S l] w fun e w' => e = .returned (.tuple #[S [], .iface 53 (.int .i64 4)]) ∧ Below w.heap.size w w' := by
  go_enter Tryd.func10, Tryd.ntmps10
  go_wp2_with fail
  refine (long1_yes 24 l _ _ _ ?_ (by omega)).mono ?_
  · simp [World.cell?_alloc_new]
  rintro e w' ⟨rfl, rfl⟩
  go_wp2_with fail
  go_ret2
  exact ⟨rfl, (Below.refl _ _).alloc (Nat.le_refl _) _⟩
/-- What Value and Read say of an error. -/
def ve (l : List UInt8) (o : Option Nat) : Option Nat × Int := if 24 < l.length then (none, 4) else match o with
  | some x => (some x, 0)
  | none => (none, 2)
def veV (p : Option Nat × Int) : Value := match p with
  | (some x, _) => .tuple #[.int .i64 (x : Int), .nilIface]
  | (none, k) => .tuple #[.int .i64 0, .iface 53 (.int .i64 k)]
theorem ve_some {l : List UInt8} {o : Option Nat} {x : Nat} (hl : l.length ≤ 24) (h : o = some x) : ve l o = (some x, 0) := by unfold ve; rw [if_neg (by omega), h]
theorem ve_cases (l : List UInt8) (o : Option Nat) : (∃ x, l.length ≤ 24 ∧ o = some x ∧ ve l o = (some x, 0)) ∨ ∃ k, k ≠ 0 ∧ ve l o = (none, k) ∧ (k = 4 ∧ 24 < l.length ∨ k = 2 ∧ l.length ≤ 24 ∧ o = none) := by
  by_cases h : 24 < l.length
  · exact .inr ⟨4, by decide, by unfold ve; rw [if_pos h], .inl ⟨rfl, h⟩⟩
  · cases o with
    | none => exact .inr ⟨2, by decide, by unfold ve; rw [if_neg h], .inr ⟨rfl, by omega, rfl⟩⟩
    | some x => exact .inl ⟨x, by omega, rfl, by unfold ve; rw [if_neg h]⟩
theorem read_any (l : List UInt8) (w : World) (hk : KG w) :
    Calls Tryd.prog 20 #[S l] w fun e w' => e = .returned (veV (ve l (readM l))) ∧ Below w.heap.size w w' := by
  by_cases h : 24 < l.length
  · refine (read_long l w h).mono ?_
    rintro e w' ⟨rfl, hb⟩
    exact ⟨by unfold ve; rw [if_pos h]; rfl, hb⟩
  · refine (read_ok l w (by omega) hk).mono ?_
    rintro e w' ⟨rfl, hb⟩
    refine ⟨?_, hb⟩
    unfold ve; rw [if_neg h]
    cases readM l <;> rfl
set_option maxRecDepth 100000 in
set_option maxHeartbeats 1000000 in
theorem value_any (l : List UInt8) (w : World) (hk : KG w) :
    Calls Tryd.prog 11 #[S l] w fun e w' => e = .returned (veV (ve l (valM l))) ∧ Below w.heap.size w w' := by
  by_cases h : 24 < l.length
  · have HV := Lib.hid (show veV (ve l (valM l)) = .tuple #[.int .i64 0, .iface 53 (.int .i64 4)] by unfold ve; rw [if_pos h]; rfl)
    go_enter Tryd.func11, Tryd.ntmps11
    go_wp2_with fail
    refine (post_long l w h).mono ?_
    rintro e w' ⟨rfl, hb⟩
    have HB := Lib.hid hb; clear hb
    go_wp2_with fail
    go_ret2
    exact ⟨by rw [HV.out]; rfl, HB.out⟩
  · have hv : veV (ve l (valM l)) = readV (valM l) := by unfold ve; rw [if_neg h]; cases valM l <;> rfl
    rw [hv]
    clear hv
    cases hp : postM l with
    | none =>
      have HV := Lib.hid (show valM l = none by unfold valM; rw [hp]; rfl)
      go_enter Tryd.func11, Tryd.ntmps11
      go_wp2_with fail
      refine (post_ok l w (by omega) hk).mono ?_
      rw [hp]
      clear hk hp
      rintro e w' ⟨rfl, hb⟩
      have HB := Lib.hid hb; clear hb
      unfold postV
      go_wp2_with fail
      go_ret2
      exact ⟨by rw [HV.out]; rfl, HB.out⟩
    | some p =>
      obtain ⟨x, hx1, hx2⟩ := val_some hp
      have hpl := postM_len hp
      have HX1 := Lib.hid hx1
      have HX2 := Lib.hid hx2
      have HK := Lib.hid hk
      clear hx1 hx2
      go_enter Tryd.func11, Tryd.ntmps11
      go_wp2_with fail
      refine (post_ok l w (by omega) hk).mono ?_
      rw [hp]
      clear hk hp
      rintro e w' ⟨rfl, hb⟩
      have HB := Lib.hid hb; clear hb
      unfold postV
      go_wp2_with fail
      refine (read_ok p w' (by omega) (HK.out.below HB.out (Nat.le_refl _))).mono ?_
      rw [HX1.out]
      rintro e w2 ⟨rfl, hb2⟩
      have HB2 := Lib.hid (HB.out.trans (hb2.mono HB.out.size)); clear hb2
      unfold readV
      go_wp2_with fail
      go_ret2
      exact ⟨by rw [HX2.out]; rfl, HB2.out⟩
/-- Value, where it is known. -/
theorem value_some {l : List UInt8} {x : Nat} (w : World) (hk : KG w) (hl : l.length ≤ 24) (h : valM l = some x) :
    Calls Tryd.prog 11 #[S l] w fun e w' => e = .returned (.tuple #[.int .i64 (x : Int), .nilIface]) ∧ Below w.heap.size w w' := by
  refine (value_any l w hk).mono ?_
  rw [ve_some hl h]
  exact fun e w' h => h
theorem value_none {l : List UInt8} {k : Int} (w : World) (hk : KG w) (h : ve l (valM l) = (none, k)) :
    Calls Tryd.prog 11 #[S l] w fun e w' => e = .returned (.tuple #[.int .i64 0, .iface 53 (.int .i64 k)]) ∧ Below w.heap.size w w' := by
  refine (value_any l w hk).mono ?_
  rw [h]
  exact fun e w' h => h
theorem read_some {l : List UInt8} {x : Nat} (w : World) (hk : KG w) (hl : l.length ≤ 24) (h : readM l = some x) :
    Calls Tryd.prog 20 #[S l] w fun e w' => e = .returned (.tuple #[.int .i64 (x : Int), .nilIface]) ∧ Below w.heap.size w w' := by
  refine (read_any l w hk).mono ?_
  rw [ve_some hl h]
  exact fun e w' h => h
theorem read_none {l : List UInt8} {k : Int} (w : World) (hk : KG w) (h : ve l (readM l) = (none, k)) :
    Calls Tryd.prog 20 #[S l] w fun e w' => e = .returned (.tuple #[.int .i64 0, .iface 53 (.int .i64 k)]) ∧ Below w.heap.size w w' := by
  refine (read_any l w hk).mono ?_
  rw [h]
  exact fun e w' h => h

set_option maxRecDepth 100000 in
theorem fact_post : postM [49, 43, 50, 42, 51] = some [49, 50, 51, 42, 43] := by decide +kernel
set_option maxRecDepth 100000 in
theorem fact_v1 : valM [50, 94, 51, 94, 50] = some 512 := by decide +kernel
set_option maxRecDepth 100000 in
theorem fact_v2 : valM [55, 45, 50, 45, 49] = some 4 := by decide +kernel
set_option maxRecDepth 100000 in
set_option maxHeartbeats 1000000 in
theorem fact_any (w : World) (hk : KG w) :
    Calls Tryd.prog 9 #[] w fun e w' => e = .returned (.bool true) ∧ Below w.heap.size w w' := by
  have HK := Lib.hid hk
  go_enter Tryd.func9, Tryd.ntmps9
  go_wp2_with fail
  refine (post_ok [49, 43, 50, 42, 51] w (by decide) hk).mono ?_
  rw [fact_post]
  clear hk
  rintro e w1 ⟨rfl, hb⟩
  have HB := Lib.hid hb; clear hb
  unfold postV
  go_wp2_with fail
  refine (value_some (l := [50, 94, 51, 94, 50]) w1 (HK.out.below HB.out (Nat.le_refl _)) (by decide) fact_v1).mono ?_
  rintro e w2 ⟨rfl, hb2⟩
  have HB2 := Lib.hid (HB.out.trans (hb2.mono HB.out.size)); clear hb2
  go_wp2_with fail
  refine (value_some (l := [55, 45, 50, 45, 49]) w2 (HK.out.below HB2.out (Nat.le_refl _)) (by decide) fact_v2).mono ?_
  rintro e w3 ⟨rfl, hb3⟩
  have HB3 := Lib.hid (HB2.out.trans (hb3.mono HB2.out.size)); clear hb3
  go_wp2_with fail
  go_ret
  exact ⟨rfl, HB3.out⟩
set_option maxHeartbeats 400000 in
theorem in_any (n lo hi : Int) (w : World) :
    Calls Tryd.prog 12 #[.int .i64 n, .int .i64 lo, .int .i64 hi] w fun e w' => e = .returned (.bool (decide (lo ≤ n ∧ n ≤ hi))) ∧ w = w' := by
  by_cases h1 : lo ≤ n
  · by_cases h2 : n ≤ hi
    all_goals
      go_enter Tryd.func12, Tryd.ntmps12
      go_wp2
      go_ret
      exact ⟨by simp [h1, h2], rfl⟩
  · go_enter Tryd.func12, Tryd.ntmps12
    go_wp2
    go_ret
    exact ⟨ret_bool (by simp [show ¬ lo ≤ n from by omega]), rfl⟩
theorem in_yes {n lo hi : Int} (h : lo ≤ n ∧ n ≤ hi) (w : World) :
    Calls Tryd.prog 12 #[.int .i64 n, .int .i64 lo, .int .i64 hi] w fun e w' => e = .returned (.bool true) ∧ w = w' := by
  refine (in_any n lo hi w).mono ?_
  rw [decide_eq_true h]
  exact fun e w' h => h
theorem in_no {n lo hi : Int} (h : ¬ (lo ≤ n ∧ n ≤ hi)) (w : World) :
    Calls Tryd.prog 12 #[.int .i64 n, .int .i64 lo, .int .i64 hi] w fun e w' => e = .returned (.bool false) ∧ w = w' := by
  refine (in_any n lo hi w).mono ?_
  rw [decide_eq_false h]
  exact fun e w' h => h
end Go.Proofs.YtehecbfgdpaemaaDoor
