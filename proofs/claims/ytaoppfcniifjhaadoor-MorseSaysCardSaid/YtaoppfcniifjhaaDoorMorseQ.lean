/- The plain laws of the document's answers for the word and for what stands twice. -/
import Derived.Test.YtaoppfcniifjhaaDoorMorseP
namespace Go.Proofs.YtaoppfcniifjhaaDoor.MorseM
open Go.Proofs.YtaoppfcniifjhaaDoor
/-- Odd as the document has it. -/
def oddR : Nat → Nat → Bool
  | 0, _ => false
  | f + 1, n => if n = 0 then false else (oddR f (n / 2) != (n % 2 == 1))
theorem oddR_zero (f : Nat) : oddR f 0 = false := by cases f <;> simp [oddR]
set_option maxRecDepth 100000 in
theorem sign_odd : ∀ i, i < 200 → sign i = if oddR 8 i then 49 else 48 := by decide +kernel
theorem rep_one {l : List UInt8} {k : Nat} (hk : 1 ≤ k) (h : 2 * k + 1 ≤ l.length) : rep 1 l k = (rep 0 l k && (bu l (2 * k) == bu l 0)) := by
  have e1 : l.take (k + 1) = l.take k ++ [bu l k] := take_succ_bu (by omega)
  have e2 : (l.drop k).take (k + 1) = (l.drop k).take k ++ [bu l (2 * k)] := by
    rw [take_succ_bu (by rw [List.length_drop]; omega), bu_drop, show k + k = 2 * k by omega]
  unfold rep
  rw [e1, e2, Nat.add_zero]
  rw [Bool.eq_iff_iff]
  simp only [beq_iff_eq, Bool.and_eq_true]
  constructor
  · intro h1
    obtain ⟨h2, h3⟩ := List.append_inj' h1 rfl
    have h4 : bu l k = bu l (2 * k) := by simpa using h3
    have h5 : bu (l.take k) 0 = bu ((l.drop k).take k) 0 := by rw [h2]
    rw [bu_take (by omega), bu_take (by omega), bu_drop, Nat.add_zero] at h5
    exact ⟨h2, by rw [← h4, h5]⟩
  · rintro ⟨h2, h3⟩
    have h5 : bu (l.take k) 0 = bu ((l.drop k).take k) 0 := by rw [h2]
    rw [bu_take (by omega), bu_take (by omega), bu_drop, Nat.add_zero] at h5
    rw [h2, h3, ← h5]
theorem noneTo_succ' {d : Nat} {l : List UInt8} {k : Nat} (h : noneTo d l k) (hr : 2 * k + d ≤ l.length → rep d l k = false) : noneTo d l (k + 1) := by
  intro j h1 h2 h3
  by_cases hj : j = k
  · subst hj; exact hr h3
  · exact h j h1 (by omega) h3
end Go.Proofs.YtaoppfcniifjhaaDoor.MorseM
