/- Package re's Signs, package regex, the laws' closed fact: their walks. Condition of the fact: errors.errorType. -/
import Derived.Test.YtchhbnnpannnhaaDoorRegI
import Derived.Test.YtchhbnnpannnhaaDoorRegJ
import Derived.Lib.OwnBridge
import Derived.Lib.BufferRead
namespace Go.Proofs.YtchhbnnpannnhaaDoor
open Go.RowKit Go.Lib Go.Sort IntWalk
attribute [local go_sem] byte_at str_app

theorem sgs_nil (s : List UInt8) (h : lets s = []) : sgs s = [] := by
  have e := signs_list (l := []) s h.symm
  rw [← e]
  have : Sort.insertionSort ltB ([] : List UInt8).toArray 0 ([] : List UInt8).toArray.size = #[] := by
    unfold Sort.insertionSort Sort.insOuter
    simp
  rw [this]; rfl
/-- What package regex answers. -/
def nulO (s : List UInt8) : Bool := match par s with
  | some t => nul t
  | none => false
theorem parsE_le {s : List UInt8} : parsE s = 0 ∨ parsE s = 2 ∨ parsE s = 4 := by
  unfold parsE
  split
  · exact .inr (.inr rfl)
  · split
    · exact .inr (.inl rfl)
    · exact .inl rfl
theorem res_3 {fn : Func} {t u v : Tmp} (h : fn.results = #[.tmp t, .tmp u, .tmp v]) (tmps : Array Value) (P : Program) (w : World) :
    (results fn tmps).run P w = .ok (.tuple #[tmps.getD t undef, tmps.getD u undef, tmps.getD v undef]) w := by
  simp [results, h]
/-! ### The closed fact -/
theorem par1 : par [97, 42, 124, 98] = some (.alt (.str (.sgn 97 0)) (.sgn 98 1)) := by rfl
theorem par2 : par [98, 97, 124, 97] = some (.alt (.seq (.sgn 98 0) (.sgn 97 1)) (.sgn 97 2)) := by rfl
theorem par3 : par [40, 97] = none := by rfl
theorem par4 : par [42] = none := by rfl
theorem sgs2 : sgs [98, 97, 124, 97] = [97, 98] := by rfl
theorem lets2 : (lets [98, 97, 124, 97]).length = 3 := by rfl
theorem parsE_of {s : List UInt8} {t : Pt} (h12 : s.length ≤ 12) (h : par s = some t) : parsE s = 0 := by
  unfold parsE; rw [if_neg (by omega), h]
theorem parsE_no {s : List UInt8} (h12 : s.length ≤ 12) (h : par s = none) : parsE s = 2 := by
  unfold parsE; rw [if_neg (by omega), h]
theorem parsE_long {s : List UInt8} (h12 : 12 < s.length) : parsE s = 4 := if_pos h12
theorem parsE_some {s : List UInt8} (h : parsE s = 0) : s.length ≤ 12 ∧ ∃ t, par s = some t := by
  unfold parsE at h
  by_cases h12 : 12 < s.length
  · rw [if_pos h12] at h; exact absurd h (by decide)
  · rw [if_neg h12] at h
    cases hp : par s with
    | none => rw [hp] at h; exact absurd h (by decide)
    | some t => exact ⟨by omega, t, rfl⟩
end Go.Proofs.YtchhbnnpannnhaaDoor
