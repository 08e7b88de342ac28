/- The plain laws of the word and of what stands twice. -/
import Derived.Test.YtaoppfcniifjhaaDoorMorseM
namespace Go.Proofs.YtaoppfcniifjhaaDoor.MorseM
open Go.Proofs.YtaoppfcniifjhaaDoor

theorem word_take {n m : Nat} (h : n ≤ m) : word n = (word m).take n := by
  unfold word
  rw [← List.map_take, List.take_range, Nat.min_eq_left h]
theorem bu_word {n i : Nat} (h : i < n) : bu (word n) i = sign i := by
  rw [bu_eq (by rw [word_len]; exact h)]
  simp [word]

/-- Computed: no place of the word has it. -/
def ckAt (l : List UInt8) : Bool := (List.range 200).all fun k => !(l.take (k + 2) == (l.drop (k + 1)).take (k + 2))
def ck : List UInt8 → Bool
  | [] => true
  | x :: t => ckAt (x :: t) && ck t
theorem ck_drop {l : List UInt8} (h : ck l = true) : ∀ j, j < l.length → ckAt (l.drop j) = true := by
  induction l with
  | nil => intro j hj; simp at hj
  | cons x t ih =>
    intro j hj
    simp only [ck, Bool.and_eq_true] at h
    cases j with
    | zero => exact h.1
    | succ j => exact ih h.2 j (by simpa using hj)
set_option maxRecDepth 100000 in
theorem word_ck : ck (word 200) = true := by decide +kernel
theorem word_none : NoneAt 1 (word 200) := by
  intro j hj k h1 h3
  have h := ck_drop word_ck j hj
  unfold ckAt at h
  rw [List.all_eq_true] at h
  have hl : ((word 200).drop j).length ≤ 200 := by rw [List.length_drop, word_len]; omega
  have := h (k - 1) (List.mem_range.2 (by omega))
  obtain ⟨k, rfl⟩ : ∃ q, k = q + 1 := ⟨k - 1, by omega⟩
  simp only [Nat.add_sub_cancel, Bool.not_eq_true'] at this
  exact this
theorem take_le_take {l m : List UInt8} {a b : Nat} (h : l.take b = m.take b) (hab : a ≤ b) : l.take a = m.take a := by
  have : (l.take b).take a = (m.take b).take a := by rw [h]
  rwa [List.take_take, List.take_take, Nat.min_eq_left hab] at this
/-- Of a part of a text: what it begins with, the text begins with there. -/
theorem rep_part {d : Nat} {l : List UInt8} {i c k : Nat} (h : 2 * k + d ≤ ((l.take c).drop i).length) : rep d ((l.take c).drop i) k = rep d (l.drop i) k := by
  rw [List.length_drop, List.length_take] at h
  unfold rep
  have e : (l.take c).drop i = (l.drop i).take (c - i) := by rw [List.drop_take]
  rw [e, List.take_take, Nat.min_eq_left (by omega), List.drop_take, List.take_take, Nat.min_eq_left (by omega)]
theorem none_part {d : Nat} {l : List UInt8} (h : NoneAt d l) (i j : Nat) : NoneAt d ((l.take j).drop i) := by
  intro p hp k h1 h3
  rw [List.drop_drop] at h3 ⊢
  rw [rep_part h3]
  rw [List.length_drop, List.length_take] at hp h3
  exact h (i + p) (by omega) k h1 (by rw [List.length_drop]; omega)
theorem word_part (n i j : Nat) (hn : n ≤ 200) : NoneAt 1 (((word n).take j).drop i) := by
  refine none_part ?_ i j
  have := none_part word_none 0 n
  rwa [List.drop_zero, ← word_take hn] at this

set_option maxRecDepth 100000 in
theorem halves : ∀ i, i < 128 → sign (2 * i) = sign i ∧ sign (2 * i + 1) ≠ sign i ∧ (sign (2 * i + 1) = 48 ∨ sign (2 * i + 1) = 49) := by decide +kernel
/-- The least power of two that is at least so much, as the law reckons it. -/
def pwGo : Nat → Nat → Nat → Nat
  | 0, _, p => p
  | f + 1, n, p => if p < n then pwGo f n (2 * p) else p
def pw (n : Nat) : Nat := pwGo 8 n 1
set_option maxRecDepth 100000 in
theorem halves2 : ∀ n, n < 101 → pw n = n → ∀ i, i < n → sign (n + i) ≠ sign i := by decide +kernel

theorem found_over {l : List UInt8} {i k : Nat} (h : FoundAt 1 l i k) : rep 0 (l.drop i) k = true := by
  obtain ⟨_, _, _, h4, _⟩ := h
  unfold rep at h4 ⊢
  rw [beq_iff_eq] at h4 ⊢
  exact take_le_take h4 (by omega)
theorem over_le {l : List UInt8} {i k a b : Nat} (h : FoundAt 1 l i k) (h' : FoundAt 0 l a b) : a ≤ i := by
  rcases Nat.lt_or_ge i a with hlt | hge
  · have := h'.2.2.2.2.2 i hlt k h.2.1 (by have := h.2.2.1; omega)
    rw [found_over h] at this; cases this
  · exact hge
theorem over_none {l : List UInt8} {i k : Nat} (h : FoundAt 1 l i k) (h' : NoneAt 0 l) : False := by
  have := h' i h.1 k h.2.1 (by have := h.2.2.1; omega)
  rw [found_over h] at this; cases this
end Go.Proofs.YtaoppfcniifjhaaDoor.MorseM
