/- Of what stands twice: a first one, and just one. -/
import Derived.Test.YtaoppfcniifjhaaDoorMorseZ
namespace Go.Proofs.YtaoppfcniifjhaaDoor
open Go.RowKit MorseM IntWalk

theorem found_uniq {d : Nat} {l : List UInt8} {i k i' k' : Nat} (h : FoundAt d l i k) (h' : FoundAt d l i' k') : i = i' ∧ k = k' := by
  have e : i = i' := by
    rcases Nat.lt_trichotomy i i' with hlt | e | hlt
    · have := h'.2.2.2.2.2 i hlt k h.2.1 h.2.2.1; rw [h.2.2.2.1] at this; cases this
    · exact e
    · have := h.2.2.2.2.2 i' hlt k' h'.2.1 h'.2.2.1; rw [h'.2.2.2.1] at this; cases this
  subst e
  refine ⟨rfl, ?_⟩
  rcases Nat.lt_trichotomy k k' with hlt | e | hlt
  · have := h'.2.2.2.2.1 k h.2.1 hlt h.2.2.1; rw [h.2.2.2.1] at this; cases this
  · exact e
  · have := h.2.2.2.2.1 k' h'.2.1 hlt h'.2.2.1; rw [h'.2.2.2.1] at this; cases this
theorem found_none {d : Nat} {l : List UInt8} {i k : Nat} (h : FoundAt d l i k) (h' : NoneAt d l) : False := by
  have := h' i h.1 k h.2.1 h.2.2.1; rw [h.2.2.2.1] at this; cases this
/-- What is found, where it is known. -/
theorem twice_known (l : List UInt8) (w : World) (hl : l.length ≤ 200) (a b : Nat) (hf : FoundAt 0 l a b) :
    Calls Tryd.prog 9 #[S l] w fun e w' => e = .returned (.tuple #[.int .i64 a, .int .i64 b, .nilIface]) ∧ Below w.heap.size w w' :=
  (twice_ok l w hl).mono fun e w' h => by
    obtain ⟨⟨i, k, hik, rfl⟩ | ⟨hn, _⟩, hb⟩ := h
    · obtain ⟨rfl, rfl⟩ := found_uniq hik hf
      exact ⟨rfl, hb⟩
    · exact (found_none hf hn).elim
theorem over_known (l : List UInt8) (w : World) (hl : l.length ≤ 200) (a b : Nat) (hf : FoundAt 1 l a b) :
    Calls Tryd.prog 10 #[S l] w fun e w' => e = .returned (.tuple #[.int .i64 a, .int .i64 b, .nilIface]) ∧ Below w.heap.size w w' :=
  (over_ok l w hl).mono fun e w' h => by
    obtain ⟨⟨i, k, hik, rfl⟩ | ⟨hn, _⟩, hb⟩ := h
    · obtain ⟨rfl, rfl⟩ := found_uniq hik hf
      exact ⟨rfl, hb⟩
    · exact (found_none hf hn).elim
theorem twice_unknown (l : List UInt8) (w : World) (hl : l.length ≤ 200) (hf : NoneAt 0 l) :
    Calls Tryd.prog 9 #[S l] w fun e w' => e = .returned (.tuple #[.int .i64 (-1), .int .i64 0, .nilIface]) ∧ Below w.heap.size w w' :=
  (twice_ok l w hl).mono fun e w' h => by
    obtain ⟨⟨i, k, hik, rfl⟩ | ⟨_, rfl⟩, hb⟩ := h
    · exact (found_none hik hf).elim
    · exact ⟨rfl, hb⟩
theorem over_unknown (l : List UInt8) (w : World) (hl : l.length ≤ 200) (hf : NoneAt 1 l) :
    Calls Tryd.prog 10 #[S l] w fun e w' => e = .returned (.tuple #[.int .i64 (-1), .int .i64 0, .nilIface]) ∧ Below w.heap.size w w' :=
  (over_ok l w hl).mono fun e w' h => by
    obtain ⟨⟨i, k, hik, rfl⟩ | ⟨_, rfl⟩, hb⟩ := h
    · exact (found_none hik hf).elim
    · exact ⟨rfl, hb⟩
/-- Where there is such a thing, there is a first one, and a shortest one there. -/
theorem exists_found {d : Nat} {l : List UInt8} {j k : Nat} (hj : j < l.length) (h1 : 1 ≤ k) (h3 : 2 * k + d ≤ (l.drop j).length) (hr : rep d (l.drop j) k = true) : ∃ a b, FoundAt d l a b := by
  have key : ∀ n, (∃ i b, i < n ∧ FoundAt d l i b) ∨ ∀ i, i < n → i < l.length → noRep d (l.drop i) := by
    intro n
    induction n with
    | zero => exact .inr fun i hi => absurd hi (by omega)
    | succ n ih =>
      rcases ih with ⟨i, b, hi, hf⟩ | ih
      · exact .inl ⟨i, b, by omega, hf⟩
      · by_cases hn : n < l.length
        · have key2 : ∀ m, (∃ b, b < m ∧ 1 ≤ b ∧ 2 * b + d ≤ (l.drop n).length ∧ rep d (l.drop n) b = true ∧ noneTo d (l.drop n) b) ∨ noneTo d (l.drop n) m := by
            intro m
            induction m with
            | zero => exact .inr fun b _ hb => absurd hb (by omega)
            | succ m ihm =>
              rcases ihm with ⟨b, hb, h⟩ | ihm
              · exact .inl ⟨b, by omega, h⟩
              · by_cases hm : 1 ≤ m ∧ 2 * m + d ≤ (l.drop n).length ∧ rep d (l.drop n) m = true
                · exact .inl ⟨m, by omega, hm.1, hm.2.1, hm.2.2, ihm⟩
                · refine .inr fun b hb1 hb2 hb3 => ?_
                  by_cases hbm : b = m
                  · subst hbm
                    cases hrb : rep d (l.drop n) b with
                    | false => rfl
                    | true => exact (hm ⟨hb1, hb3, hrb⟩).elim
                  · exact ihm b hb1 (by omega) hb3
          rcases key2 (l.length + 1) with ⟨b, _, hb1, hb2, hb3, hb4⟩ | hk2
          · exact .inl ⟨n, b, by omega, hn, hb1, hb2, hb3, hb4, fun i hi => ih i hi (by omega)⟩
          · refine .inr fun i hi hil => ?_
            by_cases hin : i = n
            · subst hin
              exact noRep_of hk2 (by rw [List.length_drop]; omega)
            · exact ih i (by omega) hil
        · exact .inr fun i hi hil => ih i (by omega) hil
  rcases key l.length with ⟨i, b, _, hf⟩ | h
  · exact ⟨i, b, hf⟩
  · have := h j hj hj k h1 h3
    rw [hr] at this; cases this
end Go.Proofs.YtaoppfcniifjhaaDoor
