/- Finding a word by its edges (Knuth, Morris and Pratt): the plain law. -/
import Derived.Test.YtgmmlblefealjaaDoorPlain
namespace Go.Proofs.YtgmmlblefealjaaDoor

/-- The word's first k signs are the last k of the text's first i. -/
def suf (w t : List UInt8) (i k : Nat) : Prop := k ≤ i ∧ ∀ j, j < k → bu w j = bu t (i - k + j)
theorem suf_zero (w t : List UInt8) (i : Nat) : suf w t i 0 := ⟨Nat.zero_le _, fun j h => absurd h (by omega)⟩
theorem suf_succ {w t : List UInt8} {i k : Nat} (h : suf w t i k) (hb : bu w k = bu t i) : suf w t (i + 1) (k + 1) := by
  obtain ⟨h1, h2⟩ := h
  refine ⟨by omega, fun j hj => ?_⟩
  rcases Nat.lt_or_ge j k with hl | hg
  · rw [h2 j hl]; congr 1; omega
  · obtain rfl : j = k := by omega
    rw [hb]; congr 1; omega
theorem suf_pred {w t : List UInt8} {i k : Nat} (h : suf w t (i + 1) (k + 1)) : suf w t i k ∧ bu w k = bu t i := by
  obtain ⟨h1, h2⟩ := h
  refine ⟨⟨by omega, fun j hj => ?_⟩, ?_⟩
  · rw [h2 j (by omega)]; congr 1; omega
  · rw [h2 k (by omega)]; congr 1; omega
/-- Two beginnings that a text ends with: the shorter is an edge of the longer. -/
theorem suf_edge {w t : List UInt8} {i k k' : Nat} (h : suf w t i k) (h' : suf w t i k') (hk : k' ≤ k) : suf w w k k' := by
  refine ⟨hk, fun j hj => ?_⟩
  rw [h'.2 j hj, h.2 (k - k' + j) (by omega)]
  congr 1
  have := h.1
  omega
theorem suf_of_edge {w t : List UInt8} {i k k' : Nat} (h : suf w t i k) (h' : suf w w k k') : suf w t i k' := by
  have h1 := h.1
  have h2 := h'.1
  refine ⟨by omega, fun j hj => ?_⟩
  rw [h'.2 j hj, h.2 (k - k' + j) (by omega)]
  congr 1
  omega
/-- e is the longest edge of the word's first m signs. -/
def Edge (w : List UInt8) (m e : Nat) : Prop := e < m ∧ suf w w m e ∧ ∀ k, k < m → suf w w m k → k ≤ e
/-- All edges of the beginnings so far. -/
def Edges (w : List UInt8) (E : List Int) (n : Nat) : Prop := ∀ m, 1 ≤ m → m ≤ n → ∃ e : Nat, gi E (m - 1) = e ∧ Edge w m e
/-- What holds in the inner loop: all that can still go on is at most k; M: bound of what may go on. -/
def Down (w t : List UInt8) (M i k : Nat) : Prop := suf w t i k ∧ ∀ k', k' < M → suf w t i k' → bu w k' = bu t i → k' ≤ k
theorem Down.step {w t : List UInt8} {M i k e : Nat} (h : Down w t M i k) (he : Edge w k e) (hne : ¬ (k < M ∧ bu w k = bu t i)) : Down w t M i e := by
  refine ⟨suf_of_edge h.1 he.2.1, fun k' hk hs hb => ?_⟩
  have hle := h.2 k' hk hs hb
  rcases Nat.lt_or_ge k' k with hl | hg
  · exact he.2.2 k' hl (suf_edge h.1 hs hle)
  · obtain rfl : k' = k := by omega
    exact absurd ⟨hk, hb⟩ hne
/-- The inner loop's end. -/
theorem Down.fin {w t : List UInt8} {M i k : Nat} (h : Down w t M i k) (hkM : k ≤ M) (hend : k = 0 ∨ (k < M ∧ bu w k = bu t i)) :
    suf w t (i + 1) (if bu w k = bu t i then k + 1 else k) ∧ ∀ k', k' ≤ M → suf w t (i + 1) k' → k' ≤ (if bu w k = bu t i then k + 1 else k) := by
  have hup : ∀ k', k' ≤ M → suf w t (i + 1) k' → k' ≤ (if bu w k = bu t i then k + 1 else k) := by
    intro k' hM hs
    cases k' with
    | zero => exact Nat.zero_le _
    | succ q =>
      obtain ⟨h1, h2⟩ := suf_pred hs
      have hq := h.2 q (by omega) h1 h2
      by_cases hb : bu w k = bu t i
      · rw [if_pos hb]; omega
      · rcases hend with h0 | h0
        · subst h0
          obtain rfl : q = 0 := by omega
          exact absurd h2 hb
        · exact absurd h0.2 hb
  refine ⟨?_, hup⟩
  by_cases hb : bu w k = bu t i
  · rw [if_pos hb]; exact suf_succ h.1 hb
  · rw [if_neg hb]
    rcases hend with h0 | h0
    · subst h0; exact suf_zero _ _ _
    · exact absurd h0.2 hb
/-- The start of a round. -/
theorem Edge.down {w : List UInt8} {i e : Nat} (h : Edge w i e) : Down w w i i e := ⟨h.2.1, fun k' hk hs _ => h.2.2 k' hk hs⟩
theorem Edge.one (w : List UInt8) : Edge w 1 0 := ⟨by omega, suf_zero _ _ _, fun k hk _ => by omega⟩
/-- The next edge. -/
theorem Edge.next {w : List UInt8} {i k : Nat} (h : Down w w i i k) (hk : k < i) (hend : k = 0 ∨ bu w k = bu w i) : Edge w (i + 1) (if bu w k = bu w i then k + 1 else k) := by
  obtain ⟨h1, h2⟩ := h.fin (by omega) (hend.imp id fun h => ⟨hk, h⟩)
  refine ⟨by split <;> omega, h1, fun k' hk' hs => h2 k' (by omega) hs⟩
/-- The greatest beginning that the text's first i signs end with. -/
def Most (w t : List UInt8) (i k : Nat) : Prop := k ≤ w.length ∧ suf w t i k ∧ ∀ k', k' ≤ w.length → suf w t i k' → k' ≤ k
theorem Most.zero (w t : List UInt8) : Most w t 0 0 := ⟨Nat.zero_le _, suf_zero _ _ _, fun _ _ h => h.1⟩
theorem Most.down {w t : List UInt8} {i k : Nat} (h : Most w t i k) : Down w t w.length i k := ⟨h.2.1, fun k' hk hs _ => h.2.2 k' (by omega) hs⟩
theorem Most.next {w t : List UInt8} {i k : Nat} (h : Down w t w.length i k) (hk : k ≤ w.length) (hend : k = 0 ∨ (k < w.length ∧ bu w k = bu t i)) (h0 : 0 < w.length) : Most w t (i + 1) (if bu w k = bu t i then k + 1 else k) := by
  obtain ⟨h1, h2⟩ := h.fin hk hend
  refine ⟨?_, h1, h2⟩
  split
  · rename_i hb
    rcases hend with h | h <;> omega
  · exact hk
/-- Does the word stand there? -/
def stands (w t : List UInt8) (p : Nat) : Bool := decide (w.length ≤ (t.drop p).length ∧ (t.drop p).take w.length = w)
/-- All places. -/
def occ (w t : List UInt8) : List Nat := (List.range t.length).filter (stands w t)
/-- The places found in the text's first i signs. -/
def occI (w t : List UInt8) (i : Nat) : List Nat := (List.range (i + 1 - w.length)).filter (stands w t)
theorem stands_suf {w t : List UInt8} {i : Nat} (hi : i ≤ t.length) (hw : w.length ≤ i) : stands w t (i - w.length) = true ↔ suf w t i w.length := by
  unfold stands
  rw [decide_eq_true_iff]
  constructor
  · rintro ⟨h1, h2⟩
    refine ⟨hw, fun j hj => ?_⟩
    have e : bu ((t.drop (i - w.length)).take w.length) j = bu w j := by rw [h2]
    rw [bu_take hj, bu_drop] at e
    exact e.symm
  · rintro ⟨_, h2⟩
    have hl : w.length ≤ (t.drop (i - w.length)).length := by rw [List.length_drop]; omega
    refine ⟨hl, List.ext_getElem (by rw [List.length_take]; omega) fun j h1 h3 => ?_⟩
    have h5 : bu ((t.drop (i - w.length)).take w.length) j = bu w j := by rw [bu_take h3, bu_drop]; exact (h2 j h3).symm
    rw [bu_eq h1, bu_eq h3] at h5
    exact h5
theorem occI_step {w t : List UInt8} {i k : Nat} (hi : i < t.length) (h : Most w t (i + 1) k) : occI w t (i + 1) = if k = w.length then occI w t i ++ [i + 1 - w.length] else occI w t i := by
  unfold occI
  by_cases hw : w.length ≤ i + 1
  · have e : i + 1 + 1 - w.length = (i + 1 - w.length) + 1 := by omega
    rw [e, List.range_succ, List.filter_append]
    have hs := stands_suf (w := w) (t := t) (i := i + 1) (by omega) hw
    by_cases hk : k = w.length
    · subst hk
      rw [if_pos rfl]
      have : stands w t (i + 1 - w.length) = true := hs.2 h.2.1
      simp [this]
    · rw [if_neg hk]
      have : stands w t (i + 1 - w.length) = false := by
        cases hq : stands w t (i + 1 - w.length) with
        | false => rfl
        | true =>
          have h1 := h.2.2 _ (Nat.le_refl _) (hs.1 hq)
          have := h.1
          omega
      simp [this]
  · have h1 := h.2.1.1
    rw [if_neg (by omega)]
    have e1 : i + 1 + 1 - w.length = 0 := by omega
    have e2 : i + 1 - w.length = 0 := by omega
    rw [e1, e2]
theorem occI_zero {w t : List UInt8} (h0 : 0 < w.length) : occI w t 0 = [] := by
  unfold occI
  rw [show 0 + 1 - w.length = 0 by omega]; rfl
theorem occI_all {w t : List UInt8} (h0 : 0 < w.length) : occI w t t.length = occ w t := by
  unfold occI occ
  have e : t.length = (t.length + 1 - w.length) + (t.length - (t.length + 1 - w.length)) := by omega
  have h2 : (List.range t.length).filter (stands w t) = (List.range ((t.length + 1 - w.length) + (t.length - (t.length + 1 - w.length)))).filter (stands w t) := by rw [← e]
  rw [h2, List.range_add, List.filter_append]
  have : ((List.range (t.length - (t.length + 1 - w.length))).map (t.length + 1 - w.length + ·)).filter (stands w t) = [] := by
    rw [List.filter_eq_nil_iff]
    intro p hp hs
    obtain ⟨q, hq, rfl⟩ := List.mem_map.1 hp
    unfold stands at hs
    rw [decide_eq_true_iff, List.length_drop] at hs
    omega
  rw [this, List.append_nil]
theorem occI_len (w t : List UInt8) (i : Nat) : (occI w t i).length ≤ i + 1 := by
  unfold occI
  refine Nat.le_trans (List.length_filter_le _ _) ?_
  rw [List.length_range]; omega
theorem occ_len (w t : List UInt8) : (occ w t).length ≤ t.length := by
  unfold occ
  refine Nat.le_trans (List.length_filter_le _ _) ?_
  rw [List.length_range]; omega
end Go.Proofs.YtgmmlblefealjaaDoor
