/- Texts joined, each with its own conditions. (1) dfa.Of: plain laws on sets of places as numbers; the map's answers; the memory behind the closure. No condition. (2) How long the document's lists of places can get. No condition. -/
import Derived.Test.YtchhbnnpannnhaaGreatDoorMg9
import Derived.Test.YtchhbnnpannnhaaGreatDoorMg3
namespace Go.Proofs.YtchhbnnpannnhaaGreatDoor
open Go.RowKit IntWalk Go.Maps
set_option linter.unusedSimpArgs false
set_option linter.unusedVariables false

def orL (L : List Nat) : Nat := L.foldl (fun T j => T ||| 2 ^ j) 0
theorem orL_snoc (L : List Nat) (j : Nat) : orL (L ++ [j]) = orL L ||| 2 ^ j := by unfold orL; rw [List.foldl_append]; rfl
theorem or_fold_bit (i : Nat) : ∀ (L : List Nat) (T : Nat), (L.foldl (fun T j => T ||| 2 ^ j) T).testBit i = (T.testBit i || decide (i ∈ L))
  | [], T => by simp
  | j :: L, T => by
    show (L.foldl _ (T ||| 2 ^ j)).testBit i = _
    rw [or_fold_bit i L, Nat.testBit_or, Nat.testBit_two_pow]
    by_cases e : j = i
    · subst e; simp
    · have e' : ¬ i = j := fun x => e x.symm
      simp [e, e']
theorem orL_bit (L : List Nat) (i : Nat) : (orL L).testBit i = decide (i ∈ L) := by unfold orL; rw [or_fold_bit]; simp
theorem orL_lt {n : Nat} {L : List Nat} (h : ∀ j ∈ L, j < n) : orL L < 2 ^ n := by
  apply Nat.lt_pow_two_of_testBit
  intro i hi
  rw [orL_bit]
  exact decide_eq_false fun hm => by have := h i hm; omega
theorem and_ne (a b : Nat) : a &&& b ≠ 0 ↔ ∃ i, a.testBit i = true ∧ b.testBit i = true := by
  constructor
  · intro h
    refine Classical.byContradiction fun hn => h (Nat.eq_of_testBit_eq fun i => ?_)
    rw [Nat.testBit_and, Nat.zero_testBit]
    cases ha : a.testBit i with
    | false => rfl
    | true =>
      cases hb : b.testBit i with
      | false => rfl
      | true => exact absurd ⟨i, ha, hb⟩ hn
  · rintro ⟨i, ha, hb⟩ h
    have : (a &&& b).testBit i = true := by rw [Nat.testBit_and, ha, hb]; rfl
    rw [h, Nat.zero_testBit] at this
    cases this
theorem beg_pow : beg = 2 ^ 20 := by decide
theorem beg_bit (i : Nat) : beg.testBit i = decide (20 = i) := by rw [beg_pow, Nat.testBit_two_pow]
/-- The ends' number. -/
def endsM (t : Pt) : Nat := if nul t = true then orL (srt (leaves t).length (lsP t)) ||| beg else orL (srt (leaves t).length (lsP t))
theorem tk_eq {t : Pt} (h12 : (leaves t).length ≤ 12) {m : Nat} (hm : m = beg ∨ m < 2 ^ (leaves t).length) : decide (m &&& endsM t ≠ 0) = tkM t m := by
  have hE : ∀ i, (endsM t).testBit i = (decide (i ∈ srt (leaves t).length (lsP t)) || (nul t && decide (20 = i))) := fun i => by
    unfold endsM
    by_cases hn : nul t = true
    · rw [if_pos hn, Nat.testBit_or, orL_bit, beg_bit, hn]; simp
    · rw [if_neg hn, orL_bit]
      have : nul t = false := by simpa using hn
      rw [this]; simp
  rw [Bool.eq_iff_iff, decide_eq_true_eq, and_ne]
  unfold tkM
  rcases hm with rfl | hm
  · rw [if_pos rfl]
    constructor
    · rintro ⟨i, h1, h2⟩
      rw [beg_bit, decide_eq_true_eq] at h1
      subst h1
      rw [hE, Bool.or_eq_true, decide_eq_true_eq] at h2
      rcases h2 with h2 | h2
      · have := (mem_srt.1 h2).1; omega
      · simpa using h2
    · intro h
      exact ⟨20, by rw [beg_bit]; rfl, by rw [hE, h]; simp⟩
  · have hb : m ≠ beg := fun e => by
      subst e
      have : 2 ^ (leaves t).length ≤ 2 ^ 12 := Nat.pow_le_pow_right (by omega) h12
      unfold beg at hm; omega
    rw [if_neg hb, List.any_eq_true]
    constructor
    · rintro ⟨i, h1, h2⟩
      have hi : i < (leaves t).length := by
        refine Classical.byContradiction fun hn => ?_
        rw [Nat.testBit_lt_two_pow (Nat.lt_of_lt_of_le hm (Nat.pow_le_pow_right (by omega) (Nat.le_of_not_lt hn)))] at h1
        cases h1
      refine ⟨i, List.mem_range.2 hi, ?_⟩
      rw [hE, Bool.or_eq_true, decide_eq_true_eq] at h2
      rcases h2 with h2 | h2
      · rw [h1, decide_eq_true (mem_srt.1 h2).2]; rfl
      · simp only [Bool.and_eq_true, decide_eq_true_eq] at h2; omega
    · rintro ⟨i, hi, h⟩
      rw [Bool.and_eq_true, decide_eq_true_eq] at h
      exact ⟨i, h.1, by rw [hE, decide_eq_true (mem_srt.2 ⟨List.mem_range.1 hi, h.2⟩)]; rfl⟩
theorem endsM_lt {t : Pt} (h12 : (leaves t).length ≤ 12) : endsM t < 2097152 := by
  have h1 : orL (srt (leaves t).length (lsP t)) < 2 ^ 21 := orL_lt fun j hj => by have := (mem_srt.1 hj).1; omega
  unfold endsM
  split
  · exact Nat.or_lt_two_pow (n := 21) h1 (by decide)
  · exact h1
/-- The sets over the rows. -/
def nxF (t : Pt) (c : UInt8) (m : Nat) : Nat → Nat
  | 0 => 0
  | k + 1 => if m.testBit k = true then flw (leaves t) c (nxF t c m k) (nxN (leaves t).length t k) else nxF t c m k
theorem mem_nxN {n : Nat} {t : Pt} {i j : Nat} : j ∈ nxN n t i ↔ j < n ∧ (i, j) ∈ prP t := by
  unfold nxN; rw [List.mem_filter, List.mem_range, decide_eq_true_eq]
theorem nxF_bit (t : Pt) (c : UInt8) (m j : Nat) : ∀ k, (nxF t c m k).testBit j = true ↔ ∃ i, i < k ∧ m.testBit i = true ∧ j ∈ nxN (leaves t).length t i ∧ bu (leaves t) j = c
  | 0 => by simp [nxF]
  | k + 1 => by
    have ih := nxF_bit t c m j k
    unfold nxF
    by_cases h : m.testBit k = true
    · rw [if_pos h, flw_bit, Bool.or_eq_true, ih, decide_eq_true_eq]
      constructor
      · rintro (⟨i, h1, h2⟩ | h1)
        · exact ⟨i, by omega, h2⟩
        · exact ⟨k, by omega, h, h1⟩
      · rintro ⟨i, h1, h2, h3⟩
        by_cases e : i = k
        · subst e; exact .inr h3
        · exact .inl ⟨i, by omega, h2, h3⟩
    · rw [if_neg h, ih]
      constructor
      · rintro ⟨i, h1, h2⟩; exact ⟨i, by omega, h2⟩
      · rintro ⟨i, h1, h2, h3⟩
        have : i ≠ k := fun e => h (e ▸ h2)
        exact ⟨i, by omega, h2, h3⟩
theorem nxF_lt {t : Pt} (h12 : (leaves t).length ≤ 12) {c : UInt8} {m : Nat} : ∀ k, nxF t c m k < 2 ^ 12
  | 0 => by unfold nxF; decide
  | k + 1 => by
    unfold nxF
    split
    · exact flw_lt (nxF_lt h12 k) fun j hj => Nat.lt_of_lt_of_le (mem_nxN.1 hj).1 h12
    · exact nxF_lt h12 k
theorem to_beg (t : Pt) (c : UInt8) : flw (leaves t) c 0 (srt (leaves t).length (fsP t)) = toM t beg c := by
  apply Nat.eq_of_testBit_eq
  intro j
  rw [flw_bit, toM_bit, Nat.zero_testBit, Bool.false_or, Bool.eq_iff_iff]
  unfold canM
  rw [if_pos rfl]
  simp only [decide_eq_true_eq, Bool.and_eq_true, mem_srt]
  exact ⟨fun h => ⟨h.1.1, h.2, h.1.2⟩, fun h => ⟨⟨h.1, h.2.2⟩, h.2.1⟩⟩
theorem to_set {t : Pt} {c : UInt8} {m : Nat} (h : m ≠ beg) : nxF t c m (leaves t).length = toM t m c := by
  apply Nat.eq_of_testBit_eq
  intro j
  rw [Bool.eq_iff_iff, nxF_bit, toM_bit]
  unfold canM
  rw [if_neg h]
  simp only [decide_eq_true_eq, Bool.and_eq_true, List.any_eq_true, List.mem_range, mem_nxN]
  exact ⟨fun ⟨i, h1, h2, h3, h4⟩ => ⟨h3.1, h4, i, h1, h2, h3.2⟩, fun ⟨h1, h2, i, h3, h4, h5⟩ => ⟨i, h3, h4, ⟨h1, h5⟩, h2⟩⟩
theorem nxF_beg {t : Pt} (h12 : (leaves t).length ≤ 12) (c : UInt8) {k : Nat} (hk : k ≤ (leaves t).length) : nxF t c beg k = 0 := by
  apply Nat.eq_of_testBit_eq
  intro j
  rw [Nat.zero_testBit]
  cases h : (nxF t c beg k).testBit j with
  | false => rfl
  | true =>
    obtain ⟨i, h1, h2, _⟩ := (nxF_bit t c beg j k).1 h
    rw [beg_bit, decide_eq_true_eq] at h2
    omega
/-- The set where a sign leads: by the rows, or, at the beginning, by the first ones. -/
def toF (t : Pt) (c : UInt8) (m k : Nat) : Nat := if m = beg then toM t beg c else nxF t c m k
theorem toF_end {t : Pt} {c : UInt8} {m : Nat} : toF t c m (leaves t).length = toM t m c := by
  unfold toF
  by_cases h : m = beg
  · rw [if_pos h, h]
  · rw [if_neg h, to_set h]
theorem shr_bitI (X c : Nat) (hX : X < 2097152) : bits .and .i64 ((X : Int) / 2 ^ c) 1 = if X.testBit c then 1 else 0 := by
  have e : (X : Int) / 2 ^ c = ((X / 2 ^ c : Nat) : Int) := by rw [Int.natCast_ediv, pow_cast]
  have h := and_i64 (a := X / 2 ^ c) (b := 1) (Nat.lt_of_le_of_lt (Nat.div_le_self _ _) hX) (by omega)
  rw [Nat.and_one_is_mod] at h
  rw [e]
  refine Eq.trans h ?_
  rw [Nat.testBit_eq_decide_div_mod_eq]
  rcases Nat.mod_two_eq_zero_or_one (X / 2 ^ c) with h2 | h2
  · rw [h2]; rfl
  · rw [h2]; rfl

/-! ### The map -/
theorem exC : ∃ C : List Int, ∀ x, x ≤ 1048576 → gi C x = (x : Int) := by
  refine ⟨(List.range 1048577).map fun x : Nat => (x : Int), fun x hx => ?_⟩
  unfold gi
  rw [List.getElem?_map, List.getElem?_range (by omega)]; rfl
section
variable {n : Nat} {C : List Int} {met : List Nat}
theorem clD_eq (hC : ∀ x, x ≤ 1048576 → gi C x = (x : Int)) (h : MetD n met) (hn : n ≤ 12) (j : Nat) : clM C met j = (met.getD j 0 : Int) := hC _ (h.at_le hn j)
theorem clD_ne (hC : ∀ x, x ≤ 1048576 → gi C x = (x : Int)) (h : MetD n met) (hn : n ≤ 12) : ∀ i j, i < met.length → j < i → clM C met j ≠ clM C met i := by
  intro i j hi hj e
  rw [clD_eq hC h hn, clD_eq hC h hn] at e
  have e : met.getD j 0 = met.getD i 0 := by omega
  rw [List.getD_eq_getElem?_getD, List.getD_eq_getElem?_getD, List.getElem?_eq_getElem (by omega), List.getElem?_eq_getElem hi] at e
  have := (List.getElem_inj h.nd).1 e
  omega
theorem lookD_has (hC : ∀ x, x ≤ 1048576 → gi C x = (x : Int)) (h : MetD n met) (hn : n ≤ 12) (t : Nat) : Maps.has (mapD (clM C met) met.length) (.int .i64 (t : Int)) = decide (met.idxOf t < met.length) := by
  rw [mapD_has, Bool.eq_iff_iff, decide_eq_true_eq, List.idxOf_lt_length_iff, List.any_eq_true]
  constructor
  · rintro ⟨j, hj, e⟩
    rw [decide_eq_true_eq, clD_eq hC h hn] at e
    have hj := List.mem_range.1 hj
    have e : met.getD j 0 = t := by omega
    rw [← e, List.getD_eq_getElem?_getD, List.getElem?_eq_getElem hj]
    exact List.getElem_mem hj
  · intro hm
    obtain ⟨j, hj, e⟩ := List.getElem_of_mem hm
    refine ⟨j, List.mem_range.2 hj, ?_⟩
    rw [decide_eq_true_eq, clD_eq hC h hn, List.getD_eq_getElem?_getD, List.getElem?_eq_getElem hj, ← e]; rfl
theorem lookD_at (hC : ∀ x, x ≤ 1048576 → gi C x = (x : Int)) (h : MetD n met) (hn : n ≤ 12) {t : Nat} (hl : met.idxOf t < met.length) (z : DataW Unit) :
    (mapD (clM C met) met.length).atKey (.int .i64 (t : Int)) z = .lit (.int .i64 (met.idxOf t : Int)) := by
  have e : (t : Int) = clM C met (met.idxOf t) := by
    rw [clD_eq hC h hn, List.getD_eq_getElem?_getD, List.getElem?_eq_getElem hl, List.getElem_idxOf hl]; rfl
  rw [e]
  exact mapD_at _ _ (clD_ne hC h hn) _ hl z
end
/-- What the closure does leaves what Of has. -/
theorem OfR.fr {M : Mc} {C : List Int} {wo : World} {gO D a : Nat} {q : List Nat} {R : List (List Int)} {T : List Bool} {vq vN vT : Value} {ok : Nat → Prop} {w w' : World} {gt : Nat}
    (h : OfR M C wo gO D a q R T vq vN vT ok w) (hf : Fr1 gt w w') (hD : D ≤ gt) (hq : vq.ownBlock ≠ some gt) (hN : vN.ownBlock ≠ some gt) (hT : vT.ownBlock ≠ some gt) (hok : ¬ ok gt) : OfR M C wo gO D a q R T vq vN vT ok w' := by
  have hlt : gO < w.heap.size := (Array.getElem?_eq_some_iff.1 h.out).1
  have hd := h.lt
  have h2 := h.other (w' := { w' with tape := w.tape }) (row := some gt) ⟨hf.os, rfl, hf.output, hf.size, fun k hk hne => hf.block k hk (fun e => hne (by rw [e]))⟩ (fun k hk => by injection hk with hk; subst hk; exact ⟨hD, hq, hN, hT, fun _ _ => hok⟩)
  exact ⟨h2.que, h2.out, h2.rows, h2.tks, h2.map, h.low.trans (hf.below (by omega) (by omega)), h2.ne, h2.lt⟩
end Go.Proofs.YtchhbnnpannnhaaGreatDoor

namespace Go.Proofs.YtchhbnnpannnhaaGreatDoor
set_option linter.unusedVariables false

/-- How many nodes a tree has. -/
def ndR : Rt → Nat
  | .emp => 1
  | .sgn _ => 1
  | .alt l r => ndR l + ndR r + 1
  | .seq l r => ndR l + ndR r + 1
  | .str l => ndR l + 1
theorem fs_lenR : ∀ (t : Rt) (a : Nat), (fsR t a).length ≤ nR t
  | .emp, a => by simp [fsR]
  | .sgn _, a => by simp [fsR, nR, lvR]
  | .alt l r, a => by
    have h1 := fs_lenR l a; have h2 := fs_lenR r (a + nR l)
    rw [nR_alt]; unfold fsR; rw [List.length_append]; omega
  | .seq l r, a => by
    have h1 := fs_lenR l a; have h2 := fs_lenR r (a + nR l)
    rw [nR_seq]; unfold fsR
    split
    · rw [List.length_append]; omega
    · omega
  | .str l, a => fs_lenR l a
theorem ls_lenR : ∀ (t : Rt) (a : Nat), (lsR t a).length ≤ nR t
  | .emp, a => by simp [lsR]
  | .sgn _, a => by simp [lsR, nR, lvR]
  | .alt l r, a => by
    have h1 := ls_lenR l a; have h2 := ls_lenR r (a + nR l)
    rw [nR_alt]; unfold lsR; rw [List.length_append]; omega
  | .seq l r, a => by
    have h1 := ls_lenR l a; have h2 := ls_lenR r (a + nR l)
    rw [nR_seq]; unfold lsR
    split
    · rw [List.length_append]; omega
    · omega
  | .str l, a => ls_lenR l a
theorem crs_len (a b : List Nat) : (crs a b).length = a.length * b.length := by
  unfold crs
  induction a with
  | nil => simp
  | cons x a ih => rw [List.flatMap_cons, List.length_append, ih, List.length_map, List.length_cons, Nat.add_mul]; omega
theorem pr_lenR : ∀ (t : Rt) (a N : Nat), nR t ≤ N → (prR t a).length ≤ ndR t * (N * N)
  | .emp, a, N, _ => by simp [prR]
  | .sgn _, a, N, _ => by simp [prR]
  | .alt l r, a, N, h => by
    rw [nR_alt] at h
    have h1 := pr_lenR l a N (by omega); have h2 := pr_lenR r (a + nR l) N (by omega)
    unfold prR ndR
    rw [List.length_append, Nat.add_mul, Nat.add_mul]; omega
  | .seq l r, a, N, h => by
    rw [nR_seq] at h
    have h1 := pr_lenR l a N (by omega); have h2 := pr_lenR r (a + nR l) N (by omega)
    have h3 : (lsR l a).length * (fsR r (a + nR l)).length ≤ N * N := Nat.mul_le_mul (Nat.le_trans (ls_lenR l a) (by omega)) (Nat.le_trans (fs_lenR r _) (by omega))
    unfold prR ndR
    rw [List.length_append, List.length_append, crs_len, Nat.add_mul, Nat.add_mul]; omega
  | .str l, a, N, h => by
    rw [nR_str] at h
    have h1 := pr_lenR l a N h
    have h3 : (lsR l a).length * (fsR l a).length ≤ N * N := Nat.mul_le_mul (Nat.le_trans (ls_lenR l a) h) (Nat.le_trans (fs_lenR l _) h)
    unfold prR ndR
    rw [List.length_append, crs_len, Nat.add_mul]; omega
/-! The reading makes few nodes. -/
def NdE (k : Nat) (E : RRd) : Prop := ∀ s t r, E s = some (t, r) → ndR t + 4 * r.length + k ≤ 4 * s.length + 1
theorem stars_nd : ∀ (s : List UInt8) (m : Rt), ndR (starsR m s).1 + 4 * (starsR m s).2.length ≤ ndR m + 4 * s.length
  | [], m => by unfold starsR; exact Nat.le_refl _
  | c :: s, m => by
    unfold starsR
    split
    · have := stars_nd s (.str m)
      have e : ndR (.str m) = ndR m + 1 := rfl
      rw [List.length_cons]; omega
    · exact Nat.le_refl _
theorem one_nd {E : RRd} (h : NdE 0 E) : NdE 4 (oneR E) := by
  intro s t r e
  cases s with
  | nil => cases e
  | cons c s =>
    rw [oneR_cons] at e
    split at e
    · injection e with e; injection e with e1 e2; subst e1 e2
      simp only [ndR, List.length_cons]; omega
    · split at e
      · cases hq : E s with
        | none => rw [hq] at e; cases e
        | some p =>
          obtain ⟨n, s1⟩ := p
          rw [hq] at e
          cases s1 with
          | nil => cases e
          | cons d s2 =>
            have h1 := h _ _ _ hq
            dsimp only at e
            split at e
            · injection e with e; injection e with e1 e2; subst e1 e2
              simp only [List.length_cons] at h1 ⊢; omega
            · cases e
      · cases e
theorem rowL_nd {O : RRd} (h : NdE 4 O) : ∀ (f : Nat) (n : Option Rt) (s : List UInt8) (t : Rt) (r : List UInt8), rowRL O f n s = some (t, r) → ndR t + 4 * r.length ≤ ndR (n.getD .emp) + 4 * s.length
  | 0, n, s, t, r, e => by cases e
  | f + 1, n, [], t, r, e => by
    unfold rowRL at e; injection e with e; injection e with e1 e2; subst e1 e2; exact Nat.le_refl _
  | f + 1, n, c :: s, t, r, e => by
    unfold rowRL at e
    split at e
    · injection e with e; injection e with e1 e2; subst e1 e2; exact Nat.le_refl _
    · cases hq : O (c :: s) with
      | none => rw [hq] at e; cases e
      | some p =>
        obtain ⟨m, s2⟩ := p
        rw [hq] at e
        have h1 := h _ _ _ hq
        have h2 := rowL_nd h f _ _ _ _ e
        have h3 := stars_nd s2 m
        cases n with
        | none =>
          have e1 : ndR ((some (addR none (starsR m s2).1)).getD .emp) = ndR (starsR m s2).1 := rfl
          have e2 : ndR ((none : Option Rt).getD .emp) = 1 := rfl
          omega
        | some n =>
          have e1 : ndR ((some (addR (some n) (starsR m s2).1)).getD .emp) = ndR n + ndR (starsR m s2).1 + 1 := rfl
          have e2 : ndR ((some n).getD .emp) = ndR n := rfl
          omega
theorem row_nd {E : RRd} (h : NdE 0 E) : NdE 0 (rowR E) := fun s t r e => by
  have := rowL_nd (one_nd h) _ _ _ _ _ e
  have e2 : ndR ((none : Option Rt).getD .emp) = 1 := rfl
  omega
theorem eitL_nd {R : RRd} (h : NdE 0 R) : ∀ (f : Nat) (n : Rt) (s : List UInt8) (t : Rt) (r : List UInt8), eitRL R f n s = some (t, r) → ndR t + 4 * r.length ≤ ndR n + 4 * s.length
  | 0, n, s, t, r, e => by cases e
  | f + 1, n, [], t, r, e => by
    unfold eitRL at e; injection e with e; injection e with e1 e2; subst e1 e2; exact Nat.le_refl _
  | f + 1, n, c :: s, t, r, e => by
    unfold eitRL at e
    split at e
    · cases hq : R s with
      | none => rw [hq] at e; cases e
      | some p =>
        obtain ⟨m, s2⟩ := p
        rw [hq] at e
        have h1 := h _ _ _ hq
        have h2 := eitL_nd h f _ _ _ _ e
        have e1 : ndR (.alt n m) = ndR n + ndR m + 1 := rfl
        rw [List.length_cons]; omega
    · injection e with e; injection e with e1 e2; subst e1 e2; exact Nat.le_refl _
theorem eit_nd {E : RRd} (h : NdE 0 E) : NdE 0 (eitR E) := fun s t r e => by
  unfold eitR at e
  cases hq : rowR E s with
  | none => rw [hq] at e; cases e
  | some p =>
    obtain ⟨n, s2⟩ := p
    rw [hq] at e
    have h1 := row_nd h _ _ _ hq
    have h2 := eitL_nd (row_nd h) _ _ _ _ _ e
    omega
theorem par_nd : ∀ n, NdE 0 (parR n)
  | 0 => fun s t r e => by cases e
  | n + 1 => eit_nd (par_nd n)
theorem rd_nd {s : List UInt8} {t : Rt} (h : rdR s = some t) : ndR t ≤ 4 * s.length + 1 := by
  unfold rdR at h
  cases hq : parR (s.length + 1) s with
  | none => rw [hq] at h; cases h
  | some p =>
    obtain ⟨t', r⟩ := p
    rw [hq] at h
    cases r with
    | nil =>
      injection h with h; subst h
      have := par_nd _ _ _ _ hq
      simpa using this
    | cons => cases h
end Go.Proofs.YtchhbnnpannnhaaGreatDoor
