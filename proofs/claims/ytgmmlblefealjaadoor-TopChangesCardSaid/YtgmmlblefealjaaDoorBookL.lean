/- The laws' put, bookFact; the law BookBack. Condition: internal/strconv.uint64pow10, errors.errorType read as the library's text lays them. -/
import Derived.Test.YtgmmlblefealjaaDoorBookS
namespace Go.Proofs.YtgmmlblefealjaaDoor
open Go.RowKit IntWalk
attribute [local go_sem] byte_at str_app
attribute [local go_sem ↓] Go.wp_at_zero Go.wp_at_succ

theorem TG.lt {w : World} (h : TG w) : 1 < w.heap.size := by
  unfold TG Lib.TabIs World.var? at h
  rw [tgG] at h
  simp only [Option.bind_some] at h
  rcases Nat.lt_or_ge 1 w.heap.size with hlt | hge
  · exact hlt
  · simp [Array.getElem?_eq_none hge] at h
/-- No foreign blocks. -/
abbrev nF : Nat → Option Obj := fun _ => none
/-- The book behind the first k steps. -/
def stS (L : List Int) (W : List (List UInt8)) : Nat → BS
  | 0 => ⟨[], [], 0⟩
  | k + 1 => (stepS (stS L W k) (gi L (2 * k)) (gi L (2 * k + 1)) (li W k)).2
theorem stS_small (L : List Int) (W : List (List UInt8)) (k : Nat) : Smalls (stS L W k) := by
  induction k with
  | zero => exact ⟨by simp [stS], by simp [stS], by simp [stS]⟩
  | succ k ih => exact stepS_small ih _ _ _
/-- How many steps are done. -/
def putK (n m : Nat) : Nat := min 70 (min m (n / 2))


/-! The closed fact. -/
theorem ita (i : Nat) (h : i < 10) : Lib.itoa (i : Int) = [UInt8.ofNat (48 + i)] := by rw [Lib.itoa_nonneg, Lib.decDigits_one h]
def fact0 : BS := ⟨[], [], 0⟩
def fact1 : BS := (putS fact0 0 [97, 99]).2
def fact2 : BS := (putS fact1 1 [98]).2
theorem fact_e1 : (putS fact0 0 [97, 99]).1 = 0 := by decide
theorem fact1_now : fact1.now = [97, 99] := by
  unfold fact1 putS; rw [if_pos (by decide)]; decide
theorem fact1_many : fact1.many = 1 := by
  unfold fact1 putS; rw [if_pos (by decide)]; decide
theorem fact1_txt : fact1.txt = [112, 32, 48, 32, 97, 99] ++ [32] ++ Lib.itoa (sumM [112, 32, 48, 32, 97, 99] : Int) ++ [10] := by
  unfold fact1 putS; rw [if_pos (by decide)]
  show [] ++ downM (putL 0 [97, 99]) = _
  have : putL 0 [97, 99] = [112, 32, 48, 32, 97, 99] := by unfold putL; rw [ita 0 (by decide)]; rfl
  rw [this]; rfl
theorem fact_e2 : (putS fact1 1 [98]).1 = 0 := by
  show putE fact1.now fact1.many 1 [98] = 0
  rw [fact1_now, fact1_many]; decide
theorem fact2_now : fact2.now = [97, 98, 99] := by
  unfold fact2 putS
  rw [if_pos (by rw [fact1_now, fact1_many]; decide)]
  show putN fact1.now 1 [98] = _
  rw [fact1_now]; decide
theorem fact2_txt : ∃ r, fact2.txt = [112, 32, 48, 32, 97, 99, 32] ++ r ∧ 1 ≤ r.length ∧ r.length ≤ 100000 := by
  obtain ⟨x1, x2, x3⟩ := putS_small (putS_small (s := fact0) ⟨by decide, by decide, by decide⟩ 0 [97, 99]) 1 [98]
  have x3' : fact2.txt.length ≤ fact2.many * 80 := x3
  have x2' : fact2.many ≤ 60 := x2
  refine ⟨Lib.itoa (sumM [112, 32, 48, 32, 97, 99] : Int) ++ [10] ++ downM (putL 1 [98]), ?_, ?_, ?_⟩
  · unfold fact2 putS
    rw [if_pos (by rw [fact1_now, fact1_many]; decide)]
    show fact1.txt ++ downM (putL 1 [98]) = _
    rw [fact1_txt]; simp
  · simp only [List.length_append, List.length_cons, List.length_nil]; omega
  · have e : fact2.txt = fact1.txt ++ downM (putL 1 [98]) := by unfold fact2 putS; rw [if_pos (by rw [fact1_now, fact1_many]; decide)]; rfl
    rw [e, fact1_txt] at x3'
    simp only [List.length_append, List.length_cons, List.length_nil] at x3' ⊢; omega

end Go.Proofs.YtgmmlblefealjaaDoor
