/- The plain law of package roman, number by number. -/
import Derived.Test.YtehecbfgdpaemaaDoorRomanM
namespace Go.Proofs.YtehecbfgdpaemaaDoor.RomanM
theorem back_all2 : ∀ a : Fin 64, ∀ b : Fin 64, 1 ≤ a.val * 64 + b.val → rOut 13 0 0 (wr ((a.val * 64 + b.val : Nat) : Int)) = (((a.val * 64 + b.val : Nat) : Int), []) ∧ (a.val * 64 + b.val < 4000 → (wr ((a.val * 64 + b.val : Nat) : Int)).length ≤ 15) := by decide +kernel
theorem back_all (n : Nat) (h : 1 ≤ n) (h2 : n < 4000) : rOut 13 0 0 (wr (n : Int)) = ((n : Int), []) ∧ (wr (n : Int)).length ≤ 15 := by
  have := back_all2 ⟨n / 64, by omega⟩ ⟨n % 64, by omega⟩
  rw [show n / 64 * 64 + n % 64 = n from by omega] at this
  exact ⟨(this h).1, (this h).2 h2⟩
/-- Where a letter stands in "IVXLCDM". -/
def seven : List UInt8 := [73, 86, 88, 76, 67, 68, 77]
def place (c : UInt8) : Nat := seven.findIdx (· == c)
def up2 : List UInt8 → List UInt8 → Bool
  | [], [] => true
  | c :: a, d :: b => decide (place c < 5) && decide (place d = place c + 2) && up2 a b
  | _, _ => false
theorem tens_all : ∀ n : Fin 400, 1 ≤ n.val → up2 (wr (n.val : Int)) (wr (10 * (n.val : Int))) = true := by decide +kernel
theorem thousand_all2 : ∀ a : Fin 48, ∀ b : Fin 64, a.val * 64 + b.val < 3000 → wr (((a.val * 64 + b.val : Nat) : Int) + 1000) = 77 :: wr ((a.val * 64 + b.val : Nat) : Int) := by decide +kernel
theorem thousand_all (n : Nat) (h : n < 3000) : wr ((n : Int) + 1000) = 77 :: wr (n : Int) := by
  have := thousand_all2 ⟨n / 64, by omega⟩ ⟨n % 64, by omega⟩
  rw [show n / 64 * 64 + n % 64 = n from by omega] at this
  exact this h
theorem fact_w : wr 1994 = [77, 67, 77, 88, 67, 73, 86] := by decide +kernel
theorem fact_r : rd [88, 76, 73, 73] = 42 := by decide +kernel
theorem back_ {n : Int} (h : 1 ≤ n ∧ n ≤ 3999) : rd (wr n) = n ∧ (wr n).length ≤ 15 := by
  obtain ⟨m, rfl⟩ : ∃ m : Nat, n = m := ⟨n.toNat, by omega⟩
  obtain ⟨h1, h2⟩ := back_all m (by omega) (by omega)
  refine ⟨?_, h2⟩
  unfold rd
  rw [h1]
  exact if_pos ⟨rfl, h.1, h.2, rfl⟩
theorem rd_spec {l : List UInt8} (h : rd l ≠ 0) : (1 ≤ rd l ∧ rd l ≤ 3999) ∧ wr (rd l) = l := by
  unfold rd at h ⊢
  split at h
  · rename_i hh; rw [if_pos hh]; exact ⟨⟨hh.2.1, hh.2.2.1⟩, hh.2.2.2⟩
  · exact absurd rfl h
theorem thousand_ {n : Int} (h : 1 ≤ n ∧ n ≤ 2999) : wr (n + 1000) = 77 :: wr n := by
  obtain ⟨m, rfl⟩ : ∃ m : Nat, n = m := ⟨n.toNat, by omega⟩
  exact thousand_all m (by omega)
theorem up2_spec : ∀ {a b : List UInt8}, up2 a b = true → a.length = b.length ∧ ∀ i, i < a.length → place (bu a i) < 5 ∧ place (bu b i) = place (bu a i) + 2 := by
  intro a
  induction a with
  | nil => intro b h; cases b with
    | nil => exact ⟨rfl, fun i hi => absurd hi (by simp)⟩
    | cons d b => simp [up2] at h
  | cons c a ih => intro b h; cases b with
    | nil => simp [up2] at h
    | cons d b =>
      simp [up2] at h
      obtain ⟨⟨h1, h2⟩, h3⟩ := h
      obtain ⟨h4, h5⟩ := ih h3
      refine ⟨by simp [h4], fun i hi => ?_⟩
      cases i with
      | zero => exact ⟨h1, h2⟩
      | succ i => exact h5 i (by simpa using hi)
theorem tens_ {n : Int} (h : 1 ≤ n ∧ n ≤ 399) : (wr n).length = (wr (10 * n)).length ∧ ∀ i, i < (wr n).length → place (bu (wr n) i) < 5 ∧ place (bu (wr (10 * n)) i) = place (bu (wr n) i) + 2 := by
  obtain ⟨m, rfl⟩ : ∃ m : Nat, n = m := ⟨n.toNat, by omega⟩
  exact up2_spec (tens_all ⟨m, by omega⟩ (by show 1 ≤ m; omega))
end Go.Proofs.YtehecbfgdpaemaaDoor.RomanM
