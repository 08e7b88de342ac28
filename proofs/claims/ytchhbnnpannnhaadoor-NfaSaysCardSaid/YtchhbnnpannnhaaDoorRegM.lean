/- What package re computes, in plain Lean: patterns as trees, the reading of a text with fuel for the depth of brackets; and plain laws on it. No condition. -/
import Derived.Test.YtchhbnnpannnhaaDoorPlain
namespace Go.Proofs.YtchhbnnpannnhaaDoor

inductive Pt where
  | non | emp
  | sgn (c : UInt8) (k : Nat)
  | alt (l r : Pt)
  | seq (l r : Pt)
  | str (l : Pt)
def addStar : Pt → Pt
  | .str l => .str l
  | m => .str m
def stars : Pt → List UInt8 → Pt × List UInt8
  | m, [] => (m, [])
  | m, c :: s => if c = 42 then stars (addStar m) s else (m, c :: s)
def addRow : Pt → Pt → Pt
  | .emp, m => m
  | n, m => .seq n m
def fixE : Pt → Pt
  | .emp => .str .non
  | n => n
abbrev PRes := Option (Pt × List UInt8 × Nat)
abbrev PRd := List UInt8 → Nat → PRes
def rowL (O : PRd) : Nat → Pt → List UInt8 → Nat → PRes
  | 0, _, _, _ => none
  | _ + 1, n, [], k => some (n, [], k)
  | f + 1, n, c :: r, k => if c = 124 ∨ c = 41 then some (n, c :: r, k) else
    match O (c :: r) k with
    | none => none
    | some (m, s2, k2) => rowL O f (addRow n (stars m s2).1) (stars m s2).2 k2
def eitL (R : PRd) : Nat → Pt → List UInt8 → Nat → PRes
  | 0, _, _, _ => none
  | _ + 1, n, [], k => some (n, [], k)
  | f + 1, n, c :: r, k => if c = 124 then
      match R r k with
      | none => none
      | some (m, s2, k2) => eitL R f (.alt n m) s2 k2
    else some (n, c :: r, k)
def oneE (E : PRd) : PRd
  | [], _ => none
  | c :: s, k => if 97 ≤ c ∧ c ≤ 122 then some (.sgn c k, s, k + 1)
    else if c = 40 then
      match E s k with
      | none => none
      | some (_, [], _) => none
      | some (n, _ :: s2, k2) => some (fixE n, s2, k2)
    else none
theorem oneE_cons (E : PRd) (c : UInt8) (s : List UInt8) (k : Nat) : oneE E (c :: s) k = if 97 ≤ c ∧ c ≤ 122 then some (.sgn c k, s, k + 1)
    else if c = 40 then
      match E s k with
      | none => none
      | some (_, [], _) => none
      | some (n, _ :: s2, k2) => some (fixE n, s2, k2)
    else none := rfl
def rowE (E : PRd) : PRd := fun s k => rowL (oneE E) (s.length + 1) .emp s k
def eitE (E : PRd) : PRd := fun s k =>
  match rowE E s k with
  | none => none
  | some (n, s2, k2) => eitL (rowE E) (s2.length + 1) n s2 k2
def parE : Nat → PRd
  | 0 => fun _ _ => none
  | n + 1 => eitE (parE n)
/-- A pattern's tree. -/
def par (s : List UInt8) : Option Pt :=
  match parE (s.length + 1) s 0 with
  | some (t, [], _) => some t
  | _ => none
def nul : Pt → Bool
  | .emp => true
  | .str _ => true
  | .alt l r => nul l || nul r
  | .seq l r => nul l && nul r
  | _ => false

/-! ### Nothing is given back that was not there -/
def Sh (E : PRd) : Prop := ∀ s k t r k', E s k = some (t, r, k') → r.length ≤ s.length
def Sh1 (O : PRd) : Prop := ∀ s k t r k', O s k = some (t, r, k') → r.length < s.length
theorem stars_len : ∀ (s : List UInt8) (m : Pt), (stars m s).2.length ≤ s.length
  | [], m => Nat.le_refl _
  | c :: s, m => by
    unfold stars
    split
    · have := stars_len s (addStar m); simp; omega
    · exact Nat.le_refl _
theorem Sh.one {E : PRd} (h : Sh E) : Sh1 (oneE E) := by
  intro s k t r k' e
  cases s with
  | nil => simp [oneE] at e
  | cons c s =>
    rw [oneE_cons] at e
    split at e
    · injection e with e; injection e with e1 e2; injection e2 with e2 e3; subst e2; simp
    · split at e
      · cases hq : E s k with
        | none => rw [hq] at e; cases e
        | some p =>
          obtain ⟨n, s1, k1⟩ := p
          rw [hq] at e
          cases s1 with
          | nil => cases e
          | cons d s2 =>
            injection e with e; injection e with e1 e2; injection e2 with e2 e3; subst e2
            have := h _ _ _ _ _ hq
            simp at this ⊢; omega
      · cases e
theorem rowL_sh {O : PRd} (h : Sh1 O) : ∀ (f : Nat) (n : Pt) (s : List UInt8) (k : Nat) (t : Pt) (r : List UInt8) (k' : Nat), rowL O f n s k = some (t, r, k') → r.length ≤ s.length
  | 0, n, s, k, t, r, k', e => by simp [rowL] at e
  | f + 1, n, [], k, t, r, k', e => by
    unfold rowL at e; injection e with e; injection e with e1 e2; injection e2 with e2 e3; subst e2; exact Nat.le_refl _
  | f + 1, n, c :: s, k, t, r, k', e => by
    unfold rowL at e
    split at e
    · injection e with e; injection e with e1 e2; injection e2 with e2 e3; subst e2; exact Nat.le_refl _
    · cases hq : O (c :: s) k with
      | none => rw [hq] at e; cases e
      | some p =>
        obtain ⟨m, s2, k2⟩ := p
        rw [hq] at e
        have h1 := h _ _ _ _ _ hq
        have h2 := rowL_sh h f _ _ _ _ _ _ e
        have h3 := stars_len s2 m
        omega
theorem Sh.row {E : PRd} (h : Sh E) : Sh (rowE E) := fun _ _ _ _ _ e => rowL_sh h.one _ _ _ _ _ _ _ e
theorem eitL_sh {R : PRd} (h : Sh R) : ∀ (f : Nat) (n : Pt) (s : List UInt8) (k : Nat) (t : Pt) (r : List UInt8) (k' : Nat), eitL R f n s k = some (t, r, k') → r.length ≤ s.length
  | 0, n, s, k, t, r, k', e => by simp [eitL] at e
  | f + 1, n, [], k, t, r, k', e => by
    unfold eitL at e; injection e with e; injection e with e1 e2; injection e2 with e2 e3; subst e2; exact Nat.le_refl _
  | f + 1, n, c :: s, k, t, r, k', e => by
    unfold eitL at e
    split at e
    · cases hq : R s k with
      | none => rw [hq] at e; cases e
      | some p =>
        obtain ⟨m, s2, k2⟩ := p
        rw [hq] at e
        have h1 := h _ _ _ _ _ hq
        have h2 := eitL_sh h f _ _ _ _ _ _ e
        simp; omega
    · injection e with e; injection e with e1 e2; injection e2 with e2 e3; subst e2; exact Nat.le_refl _
theorem Sh.eit {E : PRd} (h : Sh E) : Sh (eitE E) := by
  intro s k t r k' e
  unfold eitE at e
  cases hq : rowE E s k with
  | none => rw [hq] at e; cases e
  | some p =>
    obtain ⟨m, s2, k2⟩ := p
    rw [hq] at e
    have h1 := h.row _ _ _ _ _ hq
    have h2 := eitL_sh h.row _ _ _ _ _ _ _ e
    omega
theorem sh_par : ∀ n, Sh (parE n)
  | 0 => fun _ _ _ _ _ e => by cases e
  | n + 1 => (sh_par n).eit

/-! ### What is read stays read with more behind it, and with more fuel -/
/-- A text behind which a row, or a choice, is at its end as before. -/
def Ext (x : List UInt8) (E E' : PRd) : Prop := ∀ s k t r k', E s k = some (t, r, k') → (r ≠ [] ∨ x = [] ∨ x.head? = some 41) → E' (s ++ x) k = some (t, r ++ x, k')
def ExtR (x : List UInt8) (R R' : PRd) : Prop := ∀ s k t r k', R s k = some (t, r, k') → (r ≠ [] ∨ x = [] ∨ x.head? = some 41 ∨ x.head? = some 124) → R' (s ++ x) k = some (t, r ++ x, k')
theorem stars_app : ∀ (s x : List UInt8) (m : Pt), ((stars m s).2 ≠ [] ∨ x.head? ≠ some 42) → stars m (s ++ x) = ((stars m s).1, (stars m s).2 ++ x)
  | [], x, m, h => by
    simp only [stars, List.nil_append]
    cases x with
    | nil => rfl
    | cons c x =>
      unfold stars
      rw [if_neg (fun e => by rcases h with h | h; exact h rfl; exact h (by rw [e]; rfl))]
  | c :: s, x, m, h => by
    rw [List.cons_append]
    unfold stars at h ⊢
    by_cases e : c = 42
    · rw [if_pos e, if_pos e] at *; exact stars_app s x _ h
    · rw [if_neg e, if_neg e]; rfl
theorem Ext.one {x : List UInt8} {E E' : PRd} (h : Ext x E E') : ∀ s k t r k', oneE E s k = some (t, r, k') → oneE E' (s ++ x) k = some (t, r ++ x, k') := by
  intro s k t r k' e
  cases s with
  | nil => simp [oneE] at e
  | cons c s =>
    rw [List.cons_append]
    rw [oneE_cons] at e ⊢
    split at e
    · rename_i hc
      rw [if_pos hc]
      injection e with e; injection e with e1 e2; injection e2 with e2 e3; subst e1 e2 e3; rfl
    · rename_i hc
      rw [if_neg hc]
      split at e
      · rename_i hc2
        rw [if_pos hc2]
        cases hq : E s k with
        | none => rw [hq] at e; cases e
        | some p =>
          obtain ⟨n, s1, k1⟩ := p
          rw [hq] at e
          cases s1 with
          | nil => cases e
          | cons d s2 =>
            injection e with e; injection e with e1 e2; injection e2 with e2 e3; subst e1 e2 e3
            rw [h _ _ _ _ _ hq (.inl (by simp))]
            rfl
      · cases e
theorem rowL_ext {x : List UInt8} {O O' : PRd} (h : ∀ s k t r k', O s k = some (t, r, k') → O' (s ++ x) k = some (t, r ++ x, k')) :
    ∀ (f f' : Nat) (n : Pt) (s : List UInt8) (k : Nat) (t : Pt) (r : List UInt8) (k' : Nat), f ≤ f' → rowL O f n s k = some (t, r, k') → (r ≠ [] ∨ x = [] ∨ x.head? = some 41 ∨ x.head? = some 124) →
      rowL O' f' n (s ++ x) k = some (t, r ++ x, k')
  | 0, f', n, s, k, t, r, k', hf, e, hr => by simp [rowL] at e
  | f + 1, 0, n, s, k, t, r, k', hf, e, hr => by omega
  | f + 1, f' + 1, n, [], k, t, r, k', hf, e, hr => by
    unfold rowL at e; injection e with e; injection e with e1 e2; injection e2 with e2 e3; subst e1 e2 e3
    rcases hr with h' | h' | h' | h'
    · exact absurd rfl h'
    · subst h'; rfl
    · cases x with
      | nil => rfl
      | cons c x => injection h' with h'; subst h'; unfold rowL; simp
    · cases x with
      | nil => rfl
      | cons c x => injection h' with h'; subst h'; unfold rowL; simp
  | f + 1, f' + 1, n, c :: s, k, t, r, k', hf, e, hr => by
    rw [List.cons_append]
    unfold rowL at e ⊢
    split at e
    · rename_i hc
      rw [if_pos hc]
      injection e with e; injection e with e1 e2; injection e2 with e2 e3; subst e1 e2 e3; rfl
    · rename_i hc
      rw [if_neg hc]
      cases hq : O (c :: s) k with
      | none => rw [hq] at e; cases e
      | some p =>
        obtain ⟨m, s2, k2⟩ := p
        rw [hq] at e
        have h1 := h _ _ _ _ _ hq
        rw [List.cons_append] at h1
        rw [h1]
        simp only [] at e ⊢
        have hx : (stars m s2).2 ≠ [] ∨ x.head? ≠ some 42 := by
          by_cases hz : (stars m s2).2 = []
          · refine .inr fun hx => ?_
            rcases hr with h' | h' | h' | h'
            · rw [hz] at e
              cases f with
              | zero => simp [rowL] at e
              | succ f => unfold rowL at e; injection e with e; injection e with e1 e2; injection e2 with e2 e3; exact h' e2.symm
            · rw [h'] at hx; cases hx
            · rw [h'] at hx; injection hx with hx; exact absurd hx (by decide)
            · rw [h'] at hx; injection hx with hx; exact absurd hx (by decide)
          · exact .inl hz
        rw [stars_app _ _ _ hx]
        exact rowL_ext h f f' _ _ _ _ _ _ (by omega) e hr
theorem Ext.row {x : List UInt8} {E E' : PRd} (h : Ext x E E') : ExtR x (rowE E) (rowE E') := fun s _ _ _ _ e hr =>
  rowL_ext h.one _ _ _ _ _ _ _ _ (by simp) e hr
theorem eitL_ext {x : List UInt8} {R R' : PRd} (h : ExtR x R R') :
    ∀ (f f' : Nat) (n : Pt) (s : List UInt8) (k : Nat) (t : Pt) (r : List UInt8) (k' : Nat), f ≤ f' → eitL R f n s k = some (t, r, k') → (r ≠ [] ∨ x = [] ∨ x.head? = some 41) →
      eitL R' f' n (s ++ x) k = some (t, r ++ x, k')
  | 0, f', n, s, k, t, r, k', hf, e, hr => by simp [eitL] at e
  | f + 1, 0, n, s, k, t, r, k', hf, e, hr => by omega
  | f + 1, f' + 1, n, [], k, t, r, k', hf, e, hr => by
    unfold eitL at e; injection e with e; injection e with e1 e2; injection e2 with e2 e3; subst e1 e2 e3
    rcases hr with h' | h' | h'
    · exact absurd rfl h'
    · subst h'; rfl
    · cases x with
      | nil => rfl
      | cons c x => injection h' with h'; subst h'; unfold eitL; simp
  | f + 1, f' + 1, n, c :: s, k, t, r, k', hf, e, hr => by
    rw [List.cons_append]
    unfold eitL at e ⊢
    split at e
    · rename_i hc
      rw [if_pos hc]
      cases hq : R s k with
      | none => rw [hq] at e; cases e
      | some p =>
        obtain ⟨m, s2, k2⟩ := p
        rw [hq] at e
        simp only [] at e
        have hx : s2 ≠ [] ∨ x = [] ∨ x.head? = some 41 ∨ x.head? = some 124 := by
          rcases hr with h' | h' | h'
          · by_cases hz : s2 = []
            · subst hz
              cases f with
              | zero => simp [eitL] at e
              | succ f => unfold eitL at e; injection e with e; injection e with e1 e2; injection e2 with e2 e3; exact absurd e2.symm h'
            · exact .inl hz
          · exact .inr (.inl h')
          · exact .inr (.inr (.inl h'))
        rw [h _ _ _ _ _ hq hx]
        exact eitL_ext h f f' _ _ _ _ _ _ (by omega) e hr
    · rename_i hc
      rw [if_neg hc]
      injection e with e; injection e with e1 e2; injection e2 with e2 e3; subst e1 e2 e3; rfl
theorem Ext.eit {x : List UInt8} {E E' : PRd} (h : Ext x E E') : Ext x (eitE E) (eitE E') := by
  intro s k t r k' e hr
  unfold eitE at e ⊢
  cases hq : rowE E s k with
  | none => rw [hq] at e; cases e
  | some p =>
    obtain ⟨m, s2, k2⟩ := p
    rw [hq] at e
    simp only [] at e
    have hx : s2 ≠ [] ∨ x = [] ∨ x.head? = some 41 ∨ x.head? = some 124 := by
      rcases hr with h' | h' | h'
      · by_cases hz : s2 = []
        · subst hz
          unfold eitL at e; injection e with e; injection e with e1 e2; injection e2 with e2 e3; exact absurd e2.symm h'
        · exact .inl hz
      · exact .inr (.inl h')
      · exact .inr (.inr (.inl h'))
    rw [h.row _ _ _ _ _ hq hx]
    exact eitL_ext h.row _ _ _ _ _ _ _ _ (by simp) e hr
theorem ext_par (x : List UInt8) : ∀ n d, Ext x (parE n) (parE (n + d))
  | 0, _ => fun _ _ _ _ _ e => by cases e
  | n + 1, d => by
    rw [show n + 1 + d = (n + d) + 1 by omega]
    exact (ext_par x n d).eit
theorem ext_par' (x : List UInt8) {n m : Nat} (h : n ≤ m) : Ext x (parE n) (parE m) := by
  have := ext_par x n (m - n)
  rwa [show n + (m - n) = m by omega] at this

/-! ### Where a tree's signs are counted from is no matter to whether nothing fits -/
def NS (E : PRd) : Prop := ∀ s k k' t r k1, E s k = some (t, r, k1) → ∃ t' k1', E s k' = some (t', r, k1') ∧ nul t' = nul t
theorem nul_addStar (m : Pt) : nul (addStar m) = true := by cases m <;> rfl
theorem nul_addRow (n m : Pt) : nul (addRow n m) = (nul n && nul m) := by cases n <;> simp [addRow, nul]
theorem nul_fix (n : Pt) : nul (fixE n) = nul n := by cases n <;> rfl
theorem stars_ns : ∀ (s : List UInt8) (m m' : Pt), nul m' = nul m → (stars m' s).2 = (stars m s).2 ∧ nul (stars m' s).1 = nul (stars m s).1
  | [], m, m', h => ⟨rfl, h⟩
  | c :: s, m, m', h => by
    unfold stars
    by_cases e : c = 42
    · rw [if_pos e, if_pos e]; exact stars_ns s _ _ (by rw [nul_addStar, nul_addStar])
    · rw [if_neg e, if_neg e]; exact ⟨rfl, h⟩
theorem NS.one {E : PRd} (h : NS E) : NS (oneE E) := by
  intro s k k' t r k1 e
  cases s with
  | nil => simp [oneE] at e
  | cons c s =>
    rw [oneE_cons] at e ⊢
    by_cases hc : 97 ≤ c ∧ c ≤ 122
    · rw [if_pos hc] at e ⊢
      injection e with e; injection e with e1 e2; injection e2 with e2 e3; subst e1 e2 e3
      exact ⟨_, _, rfl, rfl⟩
    · rw [if_neg hc] at e ⊢
      by_cases hc2 : c = 40
      · rw [if_pos hc2] at e ⊢
        cases hq : E s k with
        | none => rw [hq] at e; cases e
        | some p =>
          obtain ⟨n, s1, k2⟩ := p
          rw [hq] at e
          obtain ⟨t', k3, e', hn⟩ := h _ _ k' _ _ _ hq
          rw [e']
          cases s1 with
          | nil => cases e
          | cons d s2 =>
            injection e with e; injection e with e1 e2; injection e2 with e2 e3; subst e1 e2 e3
            exact ⟨_, _, rfl, by rw [nul_fix, nul_fix, hn]⟩
      · rw [if_neg hc2] at e; cases e
theorem rowL_ns {O : PRd} (h : NS O) : ∀ (f : Nat) (n n' : Pt) (s : List UInt8) (k k' : Nat) (t : Pt) (r : List UInt8) (k1 : Nat), nul n' = nul n → rowL O f n s k = some (t, r, k1) →
    ∃ t' k1', rowL O f n' s k' = some (t', r, k1') ∧ nul t' = nul t
  | 0, n, n', s, k, k', t, r, k1, hn, e => by simp [rowL] at e
  | f + 1, n, n', [], k, k', t, r, k1, hn, e => by
    unfold rowL at e ⊢; injection e with e; injection e with e1 e2; injection e2 with e2 e3; subst e1 e2 e3
    exact ⟨_, _, rfl, hn⟩
  | f + 1, n, n', c :: s, k, k', t, r, k1, hn, e => by
    unfold rowL at e ⊢
    split at e
    · rename_i hc
      rw [if_pos hc]
      injection e with e; injection e with e1 e2; injection e2 with e2 e3; subst e1 e2 e3
      exact ⟨_, _, rfl, hn⟩
    · rename_i hc
      rw [if_neg hc]
      cases hq : O (c :: s) k with
      | none => rw [hq] at e; cases e
      | some p =>
        obtain ⟨m, s2, k2⟩ := p
        rw [hq] at e
        obtain ⟨m', k3, e', hm⟩ := h _ _ k' _ _ _ hq
        rw [e']
        simp only [] at e ⊢
        obtain ⟨h1, h2⟩ := stars_ns s2 m m' hm
        rw [h1]
        exact rowL_ns h f _ _ _ _ _ _ _ _ (by rw [nul_addRow, nul_addRow, hn, h2]) e
theorem NS.row {E : PRd} (h : NS E) : NS (rowE E) := fun _ _ _ _ _ _ e => rowL_ns h.one _ _ _ _ _ _ _ _ _ rfl e
theorem eitL_ns {R : PRd} (h : NS R) : ∀ (f : Nat) (n n' : Pt) (s : List UInt8) (k k' : Nat) (t : Pt) (r : List UInt8) (k1 : Nat), eitL R f n s k = some (t, r, k1) →
    ∃ t' k1' b, eitL R f n' s k' = some (t', r, k1') ∧ nul t = (nul n || b) ∧ nul t' = (nul n' || b)
  | 0, n, n', s, k, k', t, r, k1, e => by simp [eitL] at e
  | f + 1, n, n', [], k, k', t, r, k1, e => by
    unfold eitL at e ⊢; injection e with e; injection e with e1 e2; injection e2 with e2 e3; subst e1 e2 e3
    exact ⟨_, _, false, rfl, by simp, by simp⟩
  | f + 1, n, n', c :: s, k, k', t, r, k1, e => by
    unfold eitL at e ⊢
    split at e
    · rename_i hc
      rw [if_pos hc]
      cases hq : R s k with
      | none => rw [hq] at e; cases e
      | some p =>
        obtain ⟨m, s2, k2⟩ := p
        rw [hq] at e
        obtain ⟨m', k3, e', hm⟩ := h _ _ k' _ _ _ hq
        rw [e']
        simp only [] at e ⊢
        obtain ⟨t', k4, b, e5, h6, h7⟩ := eitL_ns h f _ (.alt n' m') _ _ k3 _ _ _ e
        refine ⟨t', k4, nul m || b, e5, ?_, ?_⟩
        · rw [h6]; simp [nul, Bool.or_assoc]
        · rw [h7]; simp [nul, Bool.or_assoc, hm]
    · rename_i hc
      rw [if_neg hc]
      injection e with e; injection e with e1 e2; injection e2 with e2 e3; subst e1 e2 e3
      exact ⟨_, _, false, rfl, by simp, by simp⟩
theorem NS.eit {E : PRd} (h : NS E) : NS (eitE E) := by
  intro s k k' t r k1 e
  unfold eitE at e ⊢
  cases hq : rowE E s k with
  | none => rw [hq] at e; cases e
  | some p =>
    obtain ⟨m, s2, k2⟩ := p
    rw [hq] at e
    obtain ⟨m', k3, e', hm⟩ := h.row _ _ k' _ _ _ hq
    rw [e']
    simp only [] at e ⊢
    obtain ⟨t', k4, b, e5, h6, h7⟩ := eitL_ns h.row _ _ m' _ _ k3 _ _ _ e
    exact ⟨t', k4, e5, by rw [h6, h7, hm]⟩
theorem ns_par : ∀ n, NS (parE n)
  | 0 => fun _ _ _ _ _ _ e => by cases e
  | n + 1 => (ns_par n).eit

/-! ### The laws -/
theorem par_some {s : List UInt8} {t : Pt} (h : par s = some t) : ∃ k, parE (s.length + 1) s 0 = some (t, [], k) := by
  unfold par at h
  split at h
  · rename_i t' k' e
    injection h with h; subst h
    exact ⟨_, e⟩
  · cases h
theorem par_of {s : List UInt8} {n k : Nat} {t : Pt} (hn : n ≤ s.length + 1) (h : parE n s 0 = some (t, [], k)) : par s = some t := by
  have := ext_par' [] hn s 0 t [] k h (.inr (.inl rfl))
  rw [List.append_nil] at this
  unfold par
  rw [this]
  rfl
theorem par_of_rest {s : List UInt8} {n k : Nat} {t : Pt} {c : UInt8} {r : List UInt8} (hn : n ≤ s.length + 1) (h : parE n s 0 = some (t, c :: r, k)) : par s = none := by
  have := ext_par' [] hn s 0 t (c :: r) k h (.inl (by simp))
  rw [List.append_nil] at this
  unfold par
  rw [this]
  rfl
/-- With a bracket ahead it is none. -/
theorem par_open {s : List UInt8} {t : Pt} (h : par s = some t) : par (40 :: s) = none := by
  obtain ⟨k, e⟩ := par_some h
  unfold par
  have h1 : oneE (parE (s.length + 1)) (40 :: s) 0 = none := by
    rw [oneE_cons]
    rw [if_neg (by decide), if_pos rfl, e]
  have h2 : rowE (parE (s.length + 1)) (40 :: s) 0 = none := by
    unfold rowE
    rw [List.length_cons]
    unfold rowL
    rw [if_neg (by decide), h1]
  have h3 : parE ((40 :: s).length + 1) (40 :: s) 0 = none := by
    show eitE (parE (s.length + 1)) (40 :: s) 0 = none
    unfold eitE
    rw [h2]
  rw [h3]
/-- With a bracket behind it is none. -/
theorem par_shut {s : List UInt8} {t : Pt} (h : par s = some t) : par (s ++ [41]) = none := by
  obtain ⟨k, e⟩ := par_some h
  have := ext_par' [41] (Nat.le_refl _) s 0 t [] k e (.inr (.inr rfl))
  exact par_of_rest (by simp) this
/-- What stands in brackets is one part. -/
theorem one_br {s x : List UInt8} {t : Pt} (h : par s = some t) (n k : Nat) (hn : s.length + 1 ≤ n) : ∃ t' k', oneE (parE n) (40 :: (s ++ 41 :: x)) k = some (t', x, k') ∧ nul t' = nul t := by
  obtain ⟨k0, e⟩ := par_some h
  obtain ⟨t1, k1, e1, h1⟩ := ns_par _ _ _ k _ _ _ e
  have := ext_par' (41 :: x) hn s k t1 [] k1 e1 (.inr (.inr rfl))
  refine ⟨fixE t1, k1, ?_, by rw [nul_fix, h1]⟩
  rw [oneE_cons]
  rw [if_neg (by decide), if_pos rfl, this]
  rfl
theorem rowL_stop (O : PRd) (f : Nat) (n : Pt) (k : Nat) : rowL O (f + 1) n [] k = some (n, [], k) := rfl
theorem eitL_stop (R : PRd) (f : Nat) (n : Pt) (k : Nat) : eitL R (f + 1) n [] k = some (n, [], k) := rfl
theorem rowL_br {O : PRd} (f : Nat) (n : Pt) (r : List UInt8) (k : Nat) {m : Pt} {s2 : List UInt8} {k2 : Nat} (h : O (40 :: r) k = some (m, s2, k2)) :
    rowL O (f + 1) n (40 :: r) k = rowL O f (addRow n (stars m s2).1) (stars m s2).2 k2 := by
  rw [rowL, if_neg (by decide), h]
theorem par_br {s : List UInt8} {t : Pt} (h : par s = some t) : ∃ t', par (40 :: (s ++ [41])) = some t' := by
  obtain ⟨t', k', e, _⟩ := one_br (x := []) h (s.length + 1) 0 (Nat.le_refl _)
  refine ⟨addRow .emp t', par_of (n := s.length + 2) (k := k') (by simp) ?_⟩
  show eitE (parE (s.length + 1)) _ 0 = _
  unfold eitE rowE
  rw [show (40 :: (s ++ [41])).length + 1 = (s.length + 1) + 1 + 1 by simp, rowL_br _ _ _ _ e]
  rfl
/-- With a star behind its brackets nothing fits it. -/
theorem par_star {s : List UInt8} {t : Pt} (h : par s = some t) : ∃ t', par (40 :: (s ++ [41, 42])) = some t' ∧ nul t' = true := by
  obtain ⟨t', k', e, _⟩ := one_br (x := [42]) h (s.length + 1) 0 (Nat.le_refl _)
  refine ⟨addRow .emp (addStar t'), par_of (n := s.length + 2) (k := k') (by simp) ?_, nul_addStar _⟩
  show eitE (parE (s.length + 1)) _ 0 = _
  unfold eitE rowE
  rw [show (40 :: (s ++ [41, 42])).length + 1 = (s.length + 2) + 1 + 1 by simp, rowL_br _ _ _ _ e]
  rfl
/-- One behind the other one. -/
theorem par_row {p q : List UInt8} {t u : Pt} (hp : par p = some t) (hq : par q = some u) : ∃ v, par (40 :: (p ++ 41 :: 40 :: (q ++ [41]))) = some v ∧ nul v = (nul t && nul u) := by
  obtain ⟨t', k', e, h1⟩ := one_br (x := 40 :: (q ++ [41])) hp (p.length + q.length + 1) 0 (by omega)
  obtain ⟨u', k'', e2, h2⟩ := one_br (x := []) hq (p.length + q.length + 1) k' (by omega)
  refine ⟨addRow (addRow .emp t') u', par_of (n := p.length + q.length + 2) (k := k'') (by simp; omega) ?_, by rw [nul_addRow, nul_addRow, h1, h2]; rfl⟩
  show eitE (parE (p.length + q.length + 1)) _ 0 = _
  unfold eitE rowE
  rw [show (40 :: (p ++ 41 :: 40 :: (q ++ [41]))).length + 1 = (p.length + q.length + 2) + 1 + 1 + 1 by simp only [List.length_cons, List.length_append, List.length_nil]; omega, rowL_br _ _ _ _ e]
  rw [show stars t' (40 :: (q ++ [41])) = (t', 40 :: (q ++ [41])) from rfl, rowL_br _ _ _ _ e2]
  rfl
/-- One or the other one. -/
theorem par_alt {p q : List UInt8} {t u : Pt} (hp : par p = some t) (hq : par q = some u) : ∃ v, par (p ++ 124 :: q) = some v ∧ nul v = (nul t || nul u) := by
  obtain ⟨k, e⟩ := par_some hp
  obtain ⟨j, e2⟩ := par_some hq
  have hN : p.length + 1 ≤ p.length + q.length + 1 := by omega
  have hM : q.length + 1 ≤ p.length + q.length + 1 := by omega
  have a1 := ext_par' [] hN p 0 t [] k e (.inr (.inl rfl))
  have a2 := ext_par' [] hM q 0 u [] j e2 (.inr (.inl rfl))
  rw [List.append_nil] at a1 a2
  have hX : Ext (124 :: q) (parE (p.length + q.length)) (parE (p.length + q.length)) := ext_par' _ (Nat.le_refl _)
  have b1 : eitE (parE (p.length + q.length)) p 0 = some (t, [], k) := a1
  have b2 : eitE (parE (p.length + q.length)) q 0 = some (u, [], j) := a2
  have hNS : NS (rowE (parE (p.length + q.length))) := (ns_par _).row
  -- the loop on p goes on behind it
  have key : ∀ (f : Nat) (n : Pt) (s : List UInt8) (k : Nat) (t : Pt) (k' : Nat), eitL (rowE (parE (p.length + q.length))) f n s k = some (t, [], k') → ∀ f', f + q.length + 1 ≤ f' →
      ∃ f2, q.length + 2 ≤ f2 ∧ eitL (rowE (parE (p.length + q.length))) f' n (s ++ 124 :: q) k = eitL (rowE (parE (p.length + q.length))) f2 t (124 :: q) k' := by
    intro f
    induction f with
    | zero => intro n s k t k' e; simp [eitL] at e
    | succ f ih =>
      intro n s k t k' e f' hf
      cases s with
      | nil =>
        unfold eitL at e; injection e with e; injection e with e1 e2; injection e2 with e2 e3; subst e1 e3
        exact ⟨f', by omega, rfl⟩
      | cons c s =>
        obtain ⟨f', rfl⟩ : ∃ g, f' = g + 1 := ⟨f' - 1, by omega⟩
        unfold eitL at e
        split at e
        · rename_i hc
          cases hq' : rowE (parE (p.length + q.length)) s k with
          | none => rw [hq'] at e; cases e
          | some z =>
            obtain ⟨m, s2, k2⟩ := z
            rw [hq'] at e
            simp only [] at e
            have hx := hX.row _ _ _ _ _ hq' (.inr (.inr (.inr rfl)))
            obtain ⟨f2, h2, h3⟩ := ih _ _ _ _ _ e f' (by omega)
            refine ⟨f2, h2, ?_⟩
            rw [List.cons_append, eitL, if_pos hc, hx]
            exact h3
        · injection e with e; injection e with e1 e2; injection e2 with e2 e3; cases e2
  unfold eitE at b1 b2
  cases hr1 : rowE (parE (p.length + q.length)) p 0 with
  | none => rw [hr1] at b1; cases b1
  | some z =>
    obtain ⟨n, s2, k2⟩ := z
    rw [hr1] at b1
    simp only [] at b1
    have hx := hX.row _ _ _ _ _ hr1 (.inr (.inr (.inr rfl)))
    obtain ⟨f2, h2, h3⟩ := key _ _ _ _ _ _ b1 ((s2 ++ 124 :: q).length + 1) (by simp; omega)
    obtain ⟨f2, rfl⟩ : ∃ g, f2 = g + 1 := ⟨f2 - 1, by omega⟩
    cases hr2 : rowE (parE (p.length + q.length)) q 0 with
    | none => rw [hr2] at b2; cases b2
    | some z =>
      obtain ⟨m, s3, k3⟩ := z
      rw [hr2] at b2
      simp only [] at b2
      obtain ⟨m', k4, e4, hm⟩ := hNS _ _ k _ _ _ hr2
      have hl := (sh_par (p.length + q.length)).row _ _ _ _ _ hr2
      obtain ⟨v, k5, b, e5, h6, h7⟩ := eitL_ns hNS _ _ (.alt t m') _ _ k4 _ _ _ b2
      have hE : Ext [] (parE (p.length + q.length)) (parE (p.length + q.length)) := ext_par' _ (Nat.le_refl _)
      have e6 := eitL_ext hE.row _ f2 _ _ _ _ _ _ (by omega) e5 (.inr (.inl rfl))
      rw [List.append_nil] at e6
      refine ⟨v, par_of (n := p.length + q.length + 1) (k := k5) (by simp only [List.length_append, List.length_cons]; omega) ?_, by rw [h7, h6]; simp [nul, hm, Bool.or_assoc]⟩
      show eitE (parE (p.length + q.length)) _ 0 = _
      unfold eitE
      rw [hx]
      show eitL _ _ n (s2 ++ 124 :: q) k2 = _
      rw [h3, eitL, if_pos rfl, e4]
      exact e6
end Go.Proofs.YtchhbnnpannnhaaDoor
