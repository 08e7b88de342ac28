/- How long the document's lists of places can get. No condition. -/
import Derived.Test.YtchhbnnpannnhaaDoorNfM
namespace Go.Proofs.YtchhbnnpannnhaaDoor
set_option linter.unusedVariables false

/-- How many nodes a tree has. -/
def ndR : Rt → Nat
  | .emp => 1
  | .sgn _ => 1
  | .alt l r => ndR l + ndR r + 1
  | .seq l r => ndR l + ndR r + 1
  | .str l => ndR l + 1
theorem fs_lenR : ∀ (t : Rt) (a : Nat), (fsR t a).length ≤ nR t
  | .emp, a => by simp [fsR]
  | .sgn _, a => by simp [fsR, nR, lvR]
  | .alt l r, a => by
    have h1 := fs_lenR l a; have h2 := fs_lenR r (a + nR l)
    rw [nR_alt]; unfold fsR; rw [List.length_append]; omega
  | .seq l r, a => by
    have h1 := fs_lenR l a; have h2 := fs_lenR r (a + nR l)
    rw [nR_seq]; unfold fsR
    split
    · rw [List.length_append]; omega
    · omega
  | .str l, a => fs_lenR l a
theorem ls_lenR : ∀ (t : Rt) (a : Nat), (lsR t a).length ≤ nR t
  | .emp, a => by simp [lsR]
  | .sgn _, a => by simp [lsR, nR, lvR]
  | .alt l r, a => by
    have h1 := ls_lenR l a; have h2 := ls_lenR r (a + nR l)
    rw [nR_alt]; unfold lsR; rw [List.length_append]; omega
  | .seq l r, a => by
    have h1 := ls_lenR l a; have h2 := ls_lenR r (a + nR l)
    rw [nR_seq]; unfold lsR
    split
    · rw [List.length_append]; omega
    · omega
  | .str l, a => ls_lenR l a
theorem crs_len (a b : List Nat) : (crs a b).length = a.length * b.length := by
  unfold crs
  induction a with
  | nil => simp
  | cons x a ih => rw [List.flatMap_cons, List.length_append, ih, List.length_map, List.length_cons, Nat.add_mul]; omega
theorem pr_lenR : ∀ (t : Rt) (a N : Nat), nR t ≤ N → (prR t a).length ≤ ndR t * (N * N)
  | .emp, a, N, _ => by simp [prR]
  | .sgn _, a, N, _ => by simp [prR]
  | .alt l r, a, N, h => by
    rw [nR_alt] at h
    have h1 := pr_lenR l a N (by omega); have h2 := pr_lenR r (a + nR l) N (by omega)
    unfold prR ndR
    rw [List.length_append, Nat.add_mul, Nat.add_mul]; omega
  | .seq l r, a, N, h => by
    rw [nR_seq] at h
    have h1 := pr_lenR l a N (by omega); have h2 := pr_lenR r (a + nR l) N (by omega)
    have h3 : (lsR l a).length * (fsR r (a + nR l)).length ≤ N * N := Nat.mul_le_mul (Nat.le_trans (ls_lenR l a) (by omega)) (Nat.le_trans (fs_lenR r _) (by omega))
    unfold prR ndR
    rw [List.length_append, List.length_append, crs_len, Nat.add_mul, Nat.add_mul]; omega
  | .str l, a, N, h => by
    rw [nR_str] at h
    have h1 := pr_lenR l a N h
    have h3 : (lsR l a).length * (fsR l a).length ≤ N * N := Nat.mul_le_mul (Nat.le_trans (ls_lenR l a) h) (Nat.le_trans (fs_lenR l _) h)
    unfold prR ndR
    rw [List.length_append, crs_len, Nat.add_mul]; omega
/-! The reading makes few nodes. -/
def NdE (k : Nat) (E : RRd) : Prop := ∀ s t r, E s = some (t, r) → ndR t + 4 * r.length + k ≤ 4 * s.length + 1
theorem stars_nd : ∀ (s : List UInt8) (m : Rt), ndR (starsR m s).1 + 4 * (starsR m s).2.length ≤ ndR m + 4 * s.length
  | [], m => by unfold starsR; exact Nat.le_refl _
  | c :: s, m => by
    unfold starsR
    split
    · have := stars_nd s (.str m)
      have e : ndR (.str m) = ndR m + 1 := rfl
      rw [List.length_cons]; omega
    · exact Nat.le_refl _
theorem one_nd {E : RRd} (h : NdE 0 E) : NdE 4 (oneR E) := by
  intro s t r e
  cases s with
  | nil => cases e
  | cons c s =>
    rw [oneR_cons] at e
    split at e
    · injection e with e; injection e with e1 e2; subst e1 e2
      simp only [ndR, List.length_cons]; omega
    · split at e
      · cases hq : E s with
        | none => rw [hq] at e; cases e
        | some p =>
          obtain ⟨n, s1⟩ := p
          rw [hq] at e
          cases s1 with
          | nil => cases e
          | cons d s2 =>
            have h1 := h _ _ _ hq
            dsimp only at e
            split at e
            · injection e with e; injection e with e1 e2; subst e1 e2
              simp only [List.length_cons] at h1 ⊢; omega
            · cases e
      · cases e
theorem rowL_nd {O : RRd} (h : NdE 4 O) : ∀ (f : Nat) (n : Option Rt) (s : List UInt8) (t : Rt) (r : List UInt8), rowRL O f n s = some (t, r) → ndR t + 4 * r.length ≤ ndR (n.getD .emp) + 4 * s.length
  | 0, n, s, t, r, e => by cases e
  | f + 1, n, [], t, r, e => by
    unfold rowRL at e; injection e with e; injection e with e1 e2; subst e1 e2; exact Nat.le_refl _
  | f + 1, n, c :: s, t, r, e => by
    unfold rowRL at e
    split at e
    · injection e with e; injection e with e1 e2; subst e1 e2; exact Nat.le_refl _
    · cases hq : O (c :: s) with
      | none => rw [hq] at e; cases e
      | some p =>
        obtain ⟨m, s2⟩ := p
        rw [hq] at e
        have h1 := h _ _ _ hq
        have h2 := rowL_nd h f _ _ _ _ e
        have h3 := stars_nd s2 m
        cases n with
        | none =>
          have e1 : ndR ((some (addR none (starsR m s2).1)).getD .emp) = ndR (starsR m s2).1 := rfl
          have e2 : ndR ((none : Option Rt).getD .emp) = 1 := rfl
          omega
        | some n =>
          have e1 : ndR ((some (addR (some n) (starsR m s2).1)).getD .emp) = ndR n + ndR (starsR m s2).1 + 1 := rfl
          have e2 : ndR ((some n).getD .emp) = ndR n := rfl
          omega
theorem row_nd {E : RRd} (h : NdE 0 E) : NdE 0 (rowR E) := fun s t r e => by
  have := rowL_nd (one_nd h) _ _ _ _ _ e
  have e2 : ndR ((none : Option Rt).getD .emp) = 1 := rfl
  omega
theorem eitL_nd {R : RRd} (h : NdE 0 R) : ∀ (f : Nat) (n : Rt) (s : List UInt8) (t : Rt) (r : List UInt8), eitRL R f n s = some (t, r) → ndR t + 4 * r.length ≤ ndR n + 4 * s.length
  | 0, n, s, t, r, e => by cases e
  | f + 1, n, [], t, r, e => by
    unfold eitRL at e; injection e with e; injection e with e1 e2; subst e1 e2; exact Nat.le_refl _
  | f + 1, n, c :: s, t, r, e => by
    unfold eitRL at e
    split at e
    · cases hq : R s with
      | none => rw [hq] at e; cases e
      | some p =>
        obtain ⟨m, s2⟩ := p
        rw [hq] at e
        have h1 := h _ _ _ hq
        have h2 := eitL_nd h f _ _ _ _ e
        have e1 : ndR (.alt n m) = ndR n + ndR m + 1 := rfl
        rw [List.length_cons]; omega
    · injection e with e; injection e with e1 e2; subst e1 e2; exact Nat.le_refl _
theorem eit_nd {E : RRd} (h : NdE 0 E) : NdE 0 (eitR E) := fun s t r e => by
  unfold eitR at e
  cases hq : rowR E s with
  | none => rw [hq] at e; cases e
  | some p =>
    obtain ⟨n, s2⟩ := p
    rw [hq] at e
    have h1 := row_nd h _ _ _ hq
    have h2 := eitL_nd (row_nd h) _ _ _ _ _ e
    omega
theorem par_nd : ∀ n, NdE 0 (parR n)
  | 0 => fun s t r e => by cases e
  | n + 1 => eit_nd (par_nd n)
theorem rd_nd {s : List UInt8} {t : Rt} (h : rdR s = some t) : ndR t ≤ 4 * s.length + 1 := by
  unfold rdR at h
  cases hq : parR (s.length + 1) s with
  | none => rw [hq] at h; cases h
  | some p =>
    obtain ⟨t', r⟩ := p
    rw [hq] at h
    cases r with
    | nil =>
      injection h with h; subst h
      have := par_nd _ _ _ _ hq
      simpa using this
    | cons => cases h
end Go.Proofs.YtchhbnnpannnhaaDoor
