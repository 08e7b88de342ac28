/- The laws' closed fact of least, in plain Lean: a small machine, its least one, the shortest text. No condition. -/
import Derived.Test.YtfglajddibjnjaaDoorLsQ
namespace Go.Proofs.YtfglajddibjnjaaDoor
set_option linter.unusedVariables false
set_option linter.unusedSimpArgs false

def FM : Mc := ⟨[97], [[1], [2], [1]], [false, true, true]⟩
def FL : Mc := ⟨[97], [[1], [1]], [false, true]⟩
theorem FM_wrong : FM.wrong = 0 := by decide +kernel
theorem FL_wrong : FL.wrong = 0 := by decide +kernel
theorem FM_ok : FM.Ok := Mc.wrong_zero.1 FM_wrong
theorem FL_ok : FL.Ok := Mc.wrong_zero.1 FL_wrong
theorem FM_12 : FM.Eqv 1 2 := by
  refine Mc.eqv_of FM_ok (R := fun i k => 1 ≤ i ∧ 1 ≤ k) ?_ ?_ (by decide) (by decide) ⟨by decide, by decide⟩
  · intro i k hi hk h
    have hi' : i < 3 := hi
    have hk' : k < 3 := hk
    have : i = 1 ∨ i = 2 := by omega
    have : k = 1 ∨ k = 2 := by omega
    rcases ‹i = 1 ∨ i = 2› with rfl | rfl <;> rcases ‹k = 1 ∨ k = 2› with rfl | rfl <;> rfl
  · intro i k c hi hk hc h
    have hi' : i < 3 := hi
    have hk' : k < 3 := hk
    have hc' : c < 1 := hc
    obtain rfl : c = 0 := by omega
    have : i = 1 ∨ i = 2 := by omega
    have : k = 1 ∨ k = 2 := by omega
    rcases ‹i = 1 ∨ i = 2› with rfl | rfl <;> rcases ‹k = 1 ∨ k = 2› with rfl | rfl <;> decide
theorem FM_e12 : FM.eqB 1 2 = true := Mc.eqB_iff.2 FM_12
theorem FM_e01 : FM.eqB 0 1 = false := by
  cases h : FM.eqB 0 1 with
  | false => rfl
  | true => exact absurd (Mc.Eqv.tk (Mc.eqB_iff.1 h)) (by decide)
theorem FM_e02 : FM.eqB 0 2 = false := by
  cases h : FM.eqB 0 2 with
  | false => rfl
  | true => exact absurd (Mc.Eqv.tk (Mc.eqB_iff.1 h)) (by decide)
theorem FM_least : FM.least = FL := by
  have s0 : FM.st 0 0 = 1 := by decide
  have s1 : FM.st 1 0 = 2 := by decide
  have hs : FM.s = 1 := rfl
  have hn : FM.n = 3 := rfl
  have t0 : bo FM.tk 0 = false := rfl
  have t1 : bo FM.tk 1 = true := rfl
  have r0 : ∀ E : Nat → Nat → Bool, E 0 1 = false → rowG FM E 0 [0] 1 = ([0, 1], [1]) := by
    intro E h; simp [rowG, idxE, s0, h, List.findIdx_cons]
  have r1 : ∀ E : Nat → Nat → Bool, E 0 2 = false → E 1 2 = true → rowG FM E 1 [0, 1] 1 = ([0, 1], [1]) := by
    intro E h h'; simp [rowG, idxE, s1, h, h', List.findIdx_cons]
  have b1 : bfs FM FM.eqB 1 = ⟨[0, 1], [[1]], [false]⟩ := by
    simp [bfs, hs, r0 _ FM_e01, t0]
  have b2 : bfs FM FM.eqB 2 = ⟨[0, 1], [[1], [1]], [false, true]⟩ := by
    rw [bfs, b1]; simp [hs, r1 _ FM_e02 FM_e12, t1]
  have b3 : bfs FM FM.eqB 3 = ⟨[0, 1], [[1], [1]], [false, true]⟩ := by
    rw [bfs, b2]; simp
  unfold Mc.least
  rw [hn, b3]
  rfl
theorem FL_run {r : Option (List UInt8)} (h : Run FL [(0, [])] [0] r) : r = some [97] :=
  h.det (.step (by decide) (by
    have : pushG FL 0 [] [] [0] FL.s = ([(1, [97])], [0, 1]) := by decide
    rw [this]
    exact .hit _ _ (by decide)))
end Go.Proofs.YtfglajddibjnjaaDoor
