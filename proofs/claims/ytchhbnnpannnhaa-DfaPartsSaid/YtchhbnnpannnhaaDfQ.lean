/- dfa.Of: plain laws on sets of places as numbers; the map's answers; the memory behind the closure. No condition. -/
import Derived.Test.YtchhbnnpannnhaaDfP
namespace Go.Proofs.Ytchhbnnpannnhaa
open Go.RowKit IntWalk Go.Maps
set_option linter.unusedSimpArgs false
set_option linter.unusedVariables false

def orL (L : List Nat) : Nat := L.foldl (fun T j => T ||| 2 ^ j) 0
theorem orL_snoc (L : List Nat) (j : Nat) : orL (L ++ [j]) = orL L ||| 2 ^ j := by unfold orL; rw [List.foldl_append]; rfl
theorem or_fold_bit (i : Nat) : ∀ (L : List Nat) (T : Nat), (L.foldl (fun T j => T ||| 2 ^ j) T).testBit i = (T.testBit i || decide (i ∈ L))
  | [], T => by simp
  | j :: L, T => by
    show (L.foldl _ (T ||| 2 ^ j)).testBit i = _
    rw [or_fold_bit i L, Nat.testBit_or, Nat.testBit_two_pow]
    by_cases e : j = i
    · subst e; simp
    · have e' : ¬ i = j := fun x => e x.symm
      simp [e, e']
theorem orL_bit (L : List Nat) (i : Nat) : (orL L).testBit i = decide (i ∈ L) := by unfold orL; rw [or_fold_bit]; simp
theorem orL_lt {n : Nat} {L : List Nat} (h : ∀ j ∈ L, j < n) : orL L < 2 ^ n := by
  apply Nat.lt_pow_two_of_testBit
  intro i hi
  rw [orL_bit]
  exact decide_eq_false fun hm => by have := h i hm; omega
theorem and_ne (a b : Nat) : a &&& b ≠ 0 ↔ ∃ i, a.testBit i = true ∧ b.testBit i = true := by
  constructor
  · intro h
    refine Classical.byContradiction fun hn => h (Nat.eq_of_testBit_eq fun i => ?_)
    rw [Nat.testBit_and, Nat.zero_testBit]
    cases ha : a.testBit i with
    | false => rfl
    | true =>
      cases hb : b.testBit i with
      | false => rfl
      | true => exact absurd ⟨i, ha, hb⟩ hn
  · rintro ⟨i, ha, hb⟩ h
    have : (a &&& b).testBit i = true := by rw [Nat.testBit_and, ha, hb]; rfl
    rw [h, Nat.zero_testBit] at this
    cases this
theorem beg_pow : beg = 2 ^ 20 := by decide
theorem beg_bit (i : Nat) : beg.testBit i = decide (20 = i) := by rw [beg_pow, Nat.testBit_two_pow]
/-- The ends' number. -/
def endsM (t : Pt) : Nat := if nul t = true then orL (srt (leaves t).length (lsP t)) ||| beg else orL (srt (leaves t).length (lsP t))
theorem tk_eq {t : Pt} (h12 : (leaves t).length ≤ 12) {m : Nat} (hm : m = beg ∨ m < 2 ^ (leaves t).length) : decide (m &&& endsM t ≠ 0) = tkM t m := by
  have hE : ∀ i, (endsM t).testBit i = (decide (i ∈ srt (leaves t).length (lsP t)) || (nul t && decide (20 = i))) := fun i => by
    unfold endsM
    by_cases hn : nul t = true
    · rw [if_pos hn, Nat.testBit_or, orL_bit, beg_bit, hn]; simp
    · rw [if_neg hn, orL_bit]
      have : nul t = false := by simpa using hn
      rw [this]; simp
  rw [Bool.eq_iff_iff, decide_eq_true_eq, and_ne]
  unfold tkM
  rcases hm with rfl | hm
  · rw [if_pos rfl]
    constructor
    · rintro ⟨i, h1, h2⟩
      rw [beg_bit, decide_eq_true_eq] at h1
      subst h1
      rw [hE, Bool.or_eq_true, decide_eq_true_eq] at h2
      rcases h2 with h2 | h2
      · have := (mem_srt.1 h2).1; omega
      · simpa using h2
    · intro h
      exact ⟨20, by rw [beg_bit]; rfl, by rw [hE, h]; simp⟩
  · have hb : m ≠ beg := fun e => by
      subst e
      have : 2 ^ (leaves t).length ≤ 2 ^ 12 := Nat.pow_le_pow_right (by omega) h12
      unfold beg at hm; omega
    rw [if_neg hb, List.any_eq_true]
    constructor
    · rintro ⟨i, h1, h2⟩
      have hi : i < (leaves t).length := by
        refine Classical.byContradiction fun hn => ?_
        rw [Nat.testBit_lt_two_pow (Nat.lt_of_lt_of_le hm (Nat.pow_le_pow_right (by omega) (Nat.le_of_not_lt hn)))] at h1
        cases h1
      refine ⟨i, List.mem_range.2 hi, ?_⟩
      rw [hE, Bool.or_eq_true, decide_eq_true_eq] at h2
      rcases h2 with h2 | h2
      · rw [h1, decide_eq_true (mem_srt.1 h2).2]; rfl
      · simp only [Bool.and_eq_true, decide_eq_true_eq] at h2; omega
    · rintro ⟨i, hi, h⟩
      rw [Bool.and_eq_true, decide_eq_true_eq] at h
      exact ⟨i, h.1, by rw [hE, decide_eq_true (mem_srt.2 ⟨List.mem_range.1 hi, h.2⟩)]; rfl⟩
theorem endsM_lt {t : Pt} (h12 : (leaves t).length ≤ 12) : endsM t < 2097152 := by
  have h1 : orL (srt (leaves t).length (lsP t)) < 2 ^ 21 := orL_lt fun j hj => by have := (mem_srt.1 hj).1; omega
  unfold endsM
  split
  · exact Nat.or_lt_two_pow (n := 21) h1 (by decide)
  · exact h1
/-- The sets over the rows. -/
def nxF (t : Pt) (c : UInt8) (m : Nat) : Nat → Nat
  | 0 => 0
  | k + 1 => if m.testBit k = true then flw (leaves t) c (nxF t c m k) (nxN (leaves t).length t k) else nxF t c m k
theorem mem_nxN {n : Nat} {t : Pt} {i j : Nat} : j ∈ nxN n t i ↔ j < n ∧ (i, j) ∈ prP t := by
  unfold nxN; rw [List.mem_filter, List.mem_range, decide_eq_true_eq]
theorem nxF_bit (t : Pt) (c : UInt8) (m j : Nat) : ∀ k, (nxF t c m k).testBit j = true ↔ ∃ i, i < k ∧ m.testBit i = true ∧ j ∈ nxN (leaves t).length t i ∧ bu (leaves t) j = c
  | 0 => by simp [nxF]
  | k + 1 => by
    have ih := nxF_bit t c m j k
    unfold nxF
    by_cases h : m.testBit k = true
    · rw [if_pos h, flw_bit, Bool.or_eq_true, ih, decide_eq_true_eq]
      constructor
      · rintro (⟨i, h1, h2⟩ | h1)
        · exact ⟨i, by omega, h2⟩
        · exact ⟨k, by omega, h, h1⟩
      · rintro ⟨i, h1, h2, h3⟩
        by_cases e : i = k
        · subst e; exact .inr h3
        · exact .inl ⟨i, by omega, h2, h3⟩
    · rw [if_neg h, ih]
      constructor
      · rintro ⟨i, h1, h2⟩; exact ⟨i, by omega, h2⟩
      · rintro ⟨i, h1, h2, h3⟩
        have : i ≠ k := fun e => h (e ▸ h2)
        exact ⟨i, by omega, h2, h3⟩
theorem nxF_lt {t : Pt} (h12 : (leaves t).length ≤ 12) {c : UInt8} {m : Nat} : ∀ k, nxF t c m k < 2 ^ 12
  | 0 => by unfold nxF; decide
  | k + 1 => by
    unfold nxF
    split
    · exact flw_lt (nxF_lt h12 k) fun j hj => Nat.lt_of_lt_of_le (mem_nxN.1 hj).1 h12
    · exact nxF_lt h12 k
theorem to_beg (t : Pt) (c : UInt8) : flw (leaves t) c 0 (srt (leaves t).length (fsP t)) = toM t beg c := by
  apply Nat.eq_of_testBit_eq
  intro j
  rw [flw_bit, toM_bit, Nat.zero_testBit, Bool.false_or, Bool.eq_iff_iff]
  unfold canM
  rw [if_pos rfl]
  simp only [decide_eq_true_eq, Bool.and_eq_true, mem_srt]
  exact ⟨fun h => ⟨h.1.1, h.2, h.1.2⟩, fun h => ⟨⟨h.1, h.2.2⟩, h.2.1⟩⟩
theorem to_set {t : Pt} {c : UInt8} {m : Nat} (h : m ≠ beg) : nxF t c m (leaves t).length = toM t m c := by
  apply Nat.eq_of_testBit_eq
  intro j
  rw [Bool.eq_iff_iff, nxF_bit, toM_bit]
  unfold canM
  rw [if_neg h]
  simp only [decide_eq_true_eq, Bool.and_eq_true, List.any_eq_true, List.mem_range, mem_nxN]
  exact ⟨fun ⟨i, h1, h2, h3, h4⟩ => ⟨h3.1, h4, i, h1, h2, h3.2⟩, fun ⟨h1, h2, i, h3, h4, h5⟩ => ⟨i, h3, h4, ⟨h1, h5⟩, h2⟩⟩
theorem nxF_beg {t : Pt} (h12 : (leaves t).length ≤ 12) (c : UInt8) {k : Nat} (hk : k ≤ (leaves t).length) : nxF t c beg k = 0 := by
  apply Nat.eq_of_testBit_eq
  intro j
  rw [Nat.zero_testBit]
  cases h : (nxF t c beg k).testBit j with
  | false => rfl
  | true =>
    obtain ⟨i, h1, h2, _⟩ := (nxF_bit t c beg j k).1 h
    rw [beg_bit, decide_eq_true_eq] at h2
    omega
/-- The set where a sign leads: by the rows, or, at the beginning, by the first ones. -/
def toF (t : Pt) (c : UInt8) (m k : Nat) : Nat := if m = beg then toM t beg c else nxF t c m k
theorem toF_end {t : Pt} {c : UInt8} {m : Nat} : toF t c m (leaves t).length = toM t m c := by
  unfold toF
  by_cases h : m = beg
  · rw [if_pos h, h]
  · rw [if_neg h, to_set h]
theorem shr_bitI (X c : Nat) (hX : X < 2097152) : bits .and .i64 ((X : Int) / 2 ^ c) 1 = if X.testBit c then 1 else 0 := by
  have e : (X : Int) / 2 ^ c = ((X / 2 ^ c : Nat) : Int) := by rw [Int.natCast_ediv, pow_cast]
  have h := and_i64 (a := X / 2 ^ c) (b := 1) (Nat.lt_of_le_of_lt (Nat.div_le_self _ _) hX) (by omega)
  rw [Nat.and_one_is_mod] at h
  rw [e]
  refine Eq.trans h ?_
  rw [Nat.testBit_eq_decide_div_mod_eq]
  rcases Nat.mod_two_eq_zero_or_one (X / 2 ^ c) with h2 | h2
  · rw [h2]; rfl
  · rw [h2]; rfl

/-! ### The map -/
theorem exC : ∃ C : List Int, ∀ x, x ≤ 1048576 → gi C x = (x : Int) := by
  refine ⟨(List.range 1048577).map fun x : Nat => (x : Int), fun x hx => ?_⟩
  unfold gi
  rw [List.getElem?_map, List.getElem?_range (by omega)]; rfl
section
variable {n : Nat} {C : List Int} {met : List Nat}
theorem clD_eq (hC : ∀ x, x ≤ 1048576 → gi C x = (x : Int)) (h : MetD n met) (hn : n ≤ 12) (j : Nat) : clM C met j = (met.getD j 0 : Int) := hC _ (h.at_le hn j)
theorem clD_ne (hC : ∀ x, x ≤ 1048576 → gi C x = (x : Int)) (h : MetD n met) (hn : n ≤ 12) : ∀ i j, i < met.length → j < i → clM C met j ≠ clM C met i := by
  intro i j hi hj e
  rw [clD_eq hC h hn, clD_eq hC h hn] at e
  have e : met.getD j 0 = met.getD i 0 := by omega
  rw [List.getD_eq_getElem?_getD, List.getD_eq_getElem?_getD, List.getElem?_eq_getElem (by omega), List.getElem?_eq_getElem hi] at e
  have := (List.getElem_inj h.nd).1 e
  omega
theorem lookD_has (hC : ∀ x, x ≤ 1048576 → gi C x = (x : Int)) (h : MetD n met) (hn : n ≤ 12) (t : Nat) : Maps.has (mapD (clM C met) met.length) (.int .i64 (t : Int)) = decide (met.idxOf t < met.length) := by
  rw [mapD_has, Bool.eq_iff_iff, decide_eq_true_eq, List.idxOf_lt_length_iff, List.any_eq_true]
  constructor
  · rintro ⟨j, hj, e⟩
    rw [decide_eq_true_eq, clD_eq hC h hn] at e
    have hj := List.mem_range.1 hj
    have e : met.getD j 0 = t := by omega
    rw [← e, List.getD_eq_getElem?_getD, List.getElem?_eq_getElem hj]
    exact List.getElem_mem hj
  · intro hm
    obtain ⟨j, hj, e⟩ := List.getElem_of_mem hm
    refine ⟨j, List.mem_range.2 hj, ?_⟩
    rw [decide_eq_true_eq, clD_eq hC h hn, List.getD_eq_getElem?_getD, List.getElem?_eq_getElem hj, ← e]; rfl
theorem lookD_at (hC : ∀ x, x ≤ 1048576 → gi C x = (x : Int)) (h : MetD n met) (hn : n ≤ 12) {t : Nat} (hl : met.idxOf t < met.length) (z : DataW Unit) :
    (mapD (clM C met) met.length).atKey (.int .i64 (t : Int)) z = .lit (.int .i64 (met.idxOf t : Int)) := by
  have e : (t : Int) = clM C met (met.idxOf t) := by
    rw [clD_eq hC h hn, List.getD_eq_getElem?_getD, List.getElem?_eq_getElem hl, List.getElem_idxOf hl]; rfl
  rw [e]
  exact mapD_at _ _ (clD_ne hC h hn) _ hl z
end
/-- What the closure does leaves what Of has. -/
theorem OfR.fr {M : Mc} {C : List Int} {wo : World} {gO D a : Nat} {q : List Nat} {R : List (List Int)} {T : List Bool} {vq vN vT : Value} {ok : Nat → Prop} {w w' : World} {gt : Nat}
    (h : OfR M C wo gO D a q R T vq vN vT ok w) (hf : Fr1 gt w w') (hD : D ≤ gt) (hq : vq.ownBlock ≠ some gt) (hN : vN.ownBlock ≠ some gt) (hT : vT.ownBlock ≠ some gt) (hok : ¬ ok gt) : OfR M C wo gO D a q R T vq vN vT ok w' := by
  have hlt : gO < w.heap.size := (Array.getElem?_eq_some_iff.1 h.out).1
  have hd := h.lt
  have h2 := h.other (w' := { w' with tape := w.tape }) (row := some gt) ⟨hf.os, rfl, hf.output, hf.size, fun k hk hne => hf.block k hk (fun e => hne (by rw [e]))⟩ (fun k hk => by injection hk with hk; subst hk; exact ⟨hD, hq, hN, hT, fun _ _ => hok⟩)
  exact ⟨h2.que, h2.out, h2.rows, h2.tks, h2.map, h.low.trans (hf.below (by omega) (by omega)), h2.ne, h2.lt⟩
end Go.Proofs.Ytchhbnnpannnhaa
