/- The letters of a sorted row of bytes. No condition. -/
import Derived.Test.YtchhbnnpannnhaaDoorSortB
namespace Go.Proofs.YtchhbnnpannnhaaDoor
open Go.RowKit Go.Lib Go.Sort

/-- What the signs of a tree are. -/
theorem signs_list {l : List UInt8} (s : List UInt8) (hs : l = lets s) : compactUpTo (Sort.insertionSort ltB l.toArray 0 l.toArray.size) (Sort.insertionSort ltB l.toArray 0 l.toArray.size).size = sgs s := by
  obtain ⟨⟨hsz, _, hperm⟩, hsorted⟩ := insertionSort_holds swoB l.toArray 0 l.toArray.size (Nat.zero_le _) (Nat.le_refl _)
  generalize Sort.insertionSort ltB l.toArray 0 l.toArray.size = d at *
  have hmem : ∀ c, c ∈ d.toList ↔ c ∈ l := fun c => by
    have := hperm.mem_iff (a := c)
    have e : l.length = d.toList.length := by simpa using hsz.symm
    simp only [Array.toList_extract, List.extract_eq_take_drop, Nat.sub_zero, List.drop_zero, List.size_toArray, List.take_length] at this
    rw [e, List.take_length] at this
    exact this
  have hle : ∀ i j, i < j → j < d.size → d[i]!.toNat ≤ d[j]!.toNat := fun i j h1 h2 => by
    have := hsorted i j (Nat.zero_le _) h1 (by rw [← hsz]; exact h2)
    unfold ltB at this
    simpa using this
  have hget : ∀ i, i < d.size → d[i]! ∈ d.toList := fun i h => by rw [getElem!_pos d i h]; simp
  refine up_ext _ _ ?_ (sgs_up s) fun c => ?_
  · unfold compactUpTo
    rw [List.pairwise_map]
    refine (List.pairwise_lt_range (n := d.size)).filter _ |>.imp_of_mem ?_
    intro a b ha hb hab
    rw [List.mem_filter] at ha hb
    have hb2 : b < d.size := by simpa using hb.1
    have hk : keeps d b = true := hb.2
    unfold keeps at hk
    have hk2 : d[b]! ≠ d[b - 1]! := by
      rcases of_decide_eq_true hk with h | h
      · omega
      · exact h
    rw [UInt8.lt_iff_toNat_lt]
    have h1 := hle (b - 1) b (by omega) hb2
    have h2 : d[a]!.toNat ≤ d[b - 1]!.toNat := by
      rcases Nat.lt_or_ge a (b - 1) with h | h
      · exact hle a (b - 1) h (by omega)
      · have : a = b - 1 := by omega
        rw [this]; exact Nat.le_refl _
    have h3 : d[b]!.toNat ≠ d[b - 1]!.toNat := fun e => hk2 (UInt8.toNat_inj.1 e)
    omega
  · rw [sgs_mem]
    have hl : c ∈ l ↔ c ∈ s ∧ isLo c = true := by rw [hs]; unfold lets; rw [List.mem_filter]
    rw [← hl, ← hmem]
    unfold compactUpTo
    rw [List.mem_map]
    constructor
    · rintro ⟨j, hj, rfl⟩
      exact hget j (by have := (List.mem_filter.1 hj).1; simpa using this)
    · intro hc
      obtain ⟨i, hi, he⟩ := List.getElem_of_mem hc
      have hi' : i < d.size := by simpa using hi
      -- the first such place
      have key : ∀ n i, i ≤ n → i < d.size → d[i]! = c → ∃ j, j < d.size ∧ keeps d j = true ∧ d[j]! = c := by
        intro n
        induction n with
        | zero =>
          intro i h1 h2 h3
          have : i = 0 := by omega
          subst this
          exact ⟨0, h2, keeps_lt_one d 0 (by omega), h3⟩
        | succ n ih =>
          intro i h1 h2 h3
          by_cases hk : keeps d i = true
          · exact ⟨i, h2, hk, h3⟩
          · have hk' : keeps d i = false := by simpa using hk
            unfold keeps at hk'
            have h4 := of_decide_eq_false hk'
            have h5 : i ≠ 0 := fun e => h4 (.inl e)
            have h6 : d[i]! = d[i - 1]! := Classical.byContradiction fun e => h4 (.inr e)
            exact ih (i - 1) (by omega) (by omega) (h6.symm.trans h3)
      obtain ⟨j, hj, hk, hj2⟩ := key i i (Nat.le_refl _) hi' (by rw [getElem!_pos d i hi']; simpa using he)
      exact ⟨j, List.mem_filter.2 ⟨by simpa using hj, hk⟩, hj2⟩
end Go.Proofs.YtchhbnnpannnhaaDoor
