/- Texts joined, each with its own conditions. (1) What package re computes, in plain Lean: patterns as trees, the reading of a text with fuel for the depth of brackets; and plain laws on it. No condition. (2) The document's reading of a pattern, in plain Lean, beside the program's: they read the same. And a tree's signs, in order. No condition. (3) What fits a pattern, the document's way, in plain Lean; which letters it has. No condition. -/
import Derived.Test.YtchhbnnpannnhaaGreatDoorMg1
namespace Go.Proofs.YtchhbnnpannnhaaGreatDoor

inductive Pt where
  | non | emp
  | sgn (c : UInt8) (k : Nat)
  | alt (l r : Pt)
  | seq (l r : Pt)
  | str (l : Pt)
def addStar : Pt → Pt
  | .str l => .str l
  | m => .str m
def stars : Pt → List UInt8 → Pt × List UInt8
  | m, [] => (m, [])
  | m, c :: s => if c = 42 then stars (addStar m) s else (m, c :: s)
def addRow : Pt → Pt → Pt
  | .emp, m => m
  | n, m => .seq n m
def fixE : Pt → Pt
  | .emp => .str .non
  | n => n
abbrev PRes := Option (Pt × List UInt8 × Nat)
abbrev PRd := List UInt8 → Nat → PRes
def rowL (O : PRd) : Nat → Pt → List UInt8 → Nat → PRes
  | 0, _, _, _ => none
  | _ + 1, n, [], k => some (n, [], k)
  | f + 1, n, c :: r, k => if c = 124 ∨ c = 41 then some (n, c :: r, k) else
    match O (c :: r) k with
    | none => none
    | some (m, s2, k2) => rowL O f (addRow n (stars m s2).1) (stars m s2).2 k2
def eitL (R : PRd) : Nat → Pt → List UInt8 → Nat → PRes
  | 0, _, _, _ => none
  | _ + 1, n, [], k => some (n, [], k)
  | f + 1, n, c :: r, k => if c = 124 then
      match R r k with
      | none => none
      | some (m, s2, k2) => eitL R f (.alt n m) s2 k2
    else some (n, c :: r, k)
def oneE (E : PRd) : PRd
  | [], _ => none
  | c :: s, k => if 97 ≤ c ∧ c ≤ 122 then some (.sgn c k, s, k + 1)
    else if c = 40 then
      match E s k with
      | none => none
      | some (_, [], _) => none
      | some (n, _ :: s2, k2) => some (fixE n, s2, k2)
    else none
theorem oneE_cons (E : PRd) (c : UInt8) (s : List UInt8) (k : Nat) : oneE E (c :: s) k = if 97 ≤ c ∧ c ≤ 122 then some (.sgn c k, s, k + 1)
    else if c = 40 then
      match E s k with
      | none => none
      | some (_, [], _) => none
      | some (n, _ :: s2, k2) => some (fixE n, s2, k2)
    else none := rfl
def rowE (E : PRd) : PRd := fun s k => rowL (oneE E) (s.length + 1) .emp s k
def eitE (E : PRd) : PRd := fun s k =>
  match rowE E s k with
  | none => none
  | some (n, s2, k2) => eitL (rowE E) (s2.length + 1) n s2 k2
def parE : Nat → PRd
  | 0 => fun _ _ => none
  | n + 1 => eitE (parE n)
/-- A pattern's tree. -/
def par (s : List UInt8) : Option Pt :=
  match parE (s.length + 1) s 0 with
  | some (t, [], _) => some t
  | _ => none
def nul : Pt → Bool
  | .emp => true
  | .str _ => true
  | .alt l r => nul l || nul r
  | .seq l r => nul l && nul r
  | _ => false

/-! ### Nothing is given back that was not there -/
def Sh (E : PRd) : Prop := ∀ s k t r k', E s k = some (t, r, k') → r.length ≤ s.length
def Sh1 (O : PRd) : Prop := ∀ s k t r k', O s k = some (t, r, k') → r.length < s.length
theorem stars_len : ∀ (s : List UInt8) (m : Pt), (stars m s).2.length ≤ s.length
  | [], m => Nat.le_refl _
  | c :: s, m => by
    unfold stars
    split
    · have := stars_len s (addStar m); simp; omega
    · exact Nat.le_refl _
theorem Sh.one {E : PRd} (h : Sh E) : Sh1 (oneE E) := by
  intro s k t r k' e
  cases s with
  | nil => simp [oneE] at e
  | cons c s =>
    rw [oneE_cons] at e
    split at e
    · injection e with e; injection e with e1 e2; injection e2 with e2 e3; subst e2; simp
    · split at e
      · cases hq : E s k with
        | none => rw [hq] at e; cases e
        | some p =>
          obtain ⟨n, s1, k1⟩ := p
          rw [hq] at e
          cases s1 with
          | nil => cases e
          | cons d s2 =>
            injection e with e; injection e with e1 e2; injection e2 with e2 e3; subst e2
            have := h _ _ _ _ _ hq
            simp at this ⊢; omega
      · cases e
theorem rowL_sh {O : PRd} (h : Sh1 O) : ∀ (f : Nat) (n : Pt) (s : List UInt8) (k : Nat) (t : Pt) (r : List UInt8) (k' : Nat), rowL O f n s k = some (t, r, k') → r.length ≤ s.length
  | 0, n, s, k, t, r, k', e => by simp [rowL] at e
  | f + 1, n, [], k, t, r, k', e => by
    unfold rowL at e; injection e with e; injection e with e1 e2; injection e2 with e2 e3; subst e2; exact Nat.le_refl _
  | f + 1, n, c :: s, k, t, r, k', e => by
    unfold rowL at e
    split at e
    · injection e with e; injection e with e1 e2; injection e2 with e2 e3; subst e2; exact Nat.le_refl _
    · cases hq : O (c :: s) k with
      | none => rw [hq] at e; cases e
      | some p =>
        obtain ⟨m, s2, k2⟩ := p
        rw [hq] at e
        have h1 := h _ _ _ _ _ hq
        have h2 := rowL_sh h f _ _ _ _ _ _ e
        have h3 := stars_len s2 m
        omega
theorem Sh.row {E : PRd} (h : Sh E) : Sh (rowE E) := fun _ _ _ _ _ e => rowL_sh h.one _ _ _ _ _ _ _ e
theorem eitL_sh {R : PRd} (h : Sh R) : ∀ (f : Nat) (n : Pt) (s : List UInt8) (k : Nat) (t : Pt) (r : List UInt8) (k' : Nat), eitL R f n s k = some (t, r, k') → r.length ≤ s.length
  | 0, n, s, k, t, r, k', e => by simp [eitL] at e
  | f + 1, n, [], k, t, r, k', e => by
    unfold eitL at e; injection e with e; injection e with e1 e2; injection e2 with e2 e3; subst e2; exact Nat.le_refl _
  | f + 1, n, c :: s, k, t, r, k', e => by
    unfold eitL at e
    split at e
    · cases hq : R s k with
      | none => rw [hq] at e; cases e
      | some p =>
        obtain ⟨m, s2, k2⟩ := p
        rw [hq] at e
        have h1 := h _ _ _ _ _ hq
        have h2 := eitL_sh h f _ _ _ _ _ _ e
        simp; omega
    · injection e with e; injection e with e1 e2; injection e2 with e2 e3; subst e2; exact Nat.le_refl _
theorem Sh.eit {E : PRd} (h : Sh E) : Sh (eitE E) := by
  intro s k t r k' e
  unfold eitE at e
  cases hq : rowE E s k with
  | none => rw [hq] at e; cases e
  | some p =>
    obtain ⟨m, s2, k2⟩ := p
    rw [hq] at e
    have h1 := h.row _ _ _ _ _ hq
    have h2 := eitL_sh h.row _ _ _ _ _ _ _ e
    omega
theorem sh_par : ∀ n, Sh (parE n)
  | 0 => fun _ _ _ _ _ e => by cases e
  | n + 1 => (sh_par n).eit

/-! ### What is read stays read with more behind it, and with more fuel -/
/-- A text behind which a row, or a choice, is at its end as before. -/
def Ext (x : List UInt8) (E E' : PRd) : Prop := ∀ s k t r k', E s k = some (t, r, k') → (r ≠ [] ∨ x = [] ∨ x.head? = some 41) → E' (s ++ x) k = some (t, r ++ x, k')
def ExtR (x : List UInt8) (R R' : PRd) : Prop := ∀ s k t r k', R s k = some (t, r, k') → (r ≠ [] ∨ x = [] ∨ x.head? = some 41 ∨ x.head? = some 124) → R' (s ++ x) k = some (t, r ++ x, k')
theorem stars_app : ∀ (s x : List UInt8) (m : Pt), ((stars m s).2 ≠ [] ∨ x.head? ≠ some 42) → stars m (s ++ x) = ((stars m s).1, (stars m s).2 ++ x)
  | [], x, m, h => by
    simp only [stars, List.nil_append]
    cases x with
    | nil => rfl
    | cons c x =>
      unfold stars
      rw [if_neg (fun e => by rcases h with h | h; exact h rfl; exact h (by rw [e]; rfl))]
  | c :: s, x, m, h => by
    rw [List.cons_append]
    unfold stars at h ⊢
    by_cases e : c = 42
    · rw [if_pos e, if_pos e] at *; exact stars_app s x _ h
    · rw [if_neg e, if_neg e]; rfl
theorem Ext.one {x : List UInt8} {E E' : PRd} (h : Ext x E E') : ∀ s k t r k', oneE E s k = some (t, r, k') → oneE E' (s ++ x) k = some (t, r ++ x, k') := by
  intro s k t r k' e
  cases s with
  | nil => simp [oneE] at e
  | cons c s =>
    rw [List.cons_append]
    rw [oneE_cons] at e ⊢
    split at e
    · rename_i hc
      rw [if_pos hc]
      injection e with e; injection e with e1 e2; injection e2 with e2 e3; subst e1 e2 e3; rfl
    · rename_i hc
      rw [if_neg hc]
      split at e
      · rename_i hc2
        rw [if_pos hc2]
        cases hq : E s k with
        | none => rw [hq] at e; cases e
        | some p =>
          obtain ⟨n, s1, k1⟩ := p
          rw [hq] at e
          cases s1 with
          | nil => cases e
          | cons d s2 =>
            injection e with e; injection e with e1 e2; injection e2 with e2 e3; subst e1 e2 e3
            rw [h _ _ _ _ _ hq (.inl (by simp))]
            rfl
      · cases e
theorem rowL_ext {x : List UInt8} {O O' : PRd} (h : ∀ s k t r k', O s k = some (t, r, k') → O' (s ++ x) k = some (t, r ++ x, k')) :
    ∀ (f f' : Nat) (n : Pt) (s : List UInt8) (k : Nat) (t : Pt) (r : List UInt8) (k' : Nat), f ≤ f' → rowL O f n s k = some (t, r, k') → (r ≠ [] ∨ x = [] ∨ x.head? = some 41 ∨ x.head? = some 124) →
      rowL O' f' n (s ++ x) k = some (t, r ++ x, k')
  | 0, f', n, s, k, t, r, k', hf, e, hr => by simp [rowL] at e
  | f + 1, 0, n, s, k, t, r, k', hf, e, hr => by omega
  | f + 1, f' + 1, n, [], k, t, r, k', hf, e, hr => by
    unfold rowL at e; injection e with e; injection e with e1 e2; injection e2 with e2 e3; subst e1 e2 e3
    rcases hr with h' | h' | h' | h'
    · exact absurd rfl h'
    · subst h'; rfl
    · cases x with
      | nil => rfl
      | cons c x => injection h' with h'; subst h'; unfold rowL; simp
    · cases x with
      | nil => rfl
      | cons c x => injection h' with h'; subst h'; unfold rowL; simp
  | f + 1, f' + 1, n, c :: s, k, t, r, k', hf, e, hr => by
    rw [List.cons_append]
    unfold rowL at e ⊢
    split at e
    · rename_i hc
      rw [if_pos hc]
      injection e with e; injection e with e1 e2; injection e2 with e2 e3; subst e1 e2 e3; rfl
    · rename_i hc
      rw [if_neg hc]
      cases hq : O (c :: s) k with
      | none => rw [hq] at e; cases e
      | some p =>
        obtain ⟨m, s2, k2⟩ := p
        rw [hq] at e
        have h1 := h _ _ _ _ _ hq
        rw [List.cons_append] at h1
        rw [h1]
        simp only [] at e ⊢
        have hx : (stars m s2).2 ≠ [] ∨ x.head? ≠ some 42 := by
          by_cases hz : (stars m s2).2 = []
          · refine .inr fun hx => ?_
            rcases hr with h' | h' | h' | h'
            · rw [hz] at e
              cases f with
              | zero => simp [rowL] at e
              | succ f => unfold rowL at e; injection e with e; injection e with e1 e2; injection e2 with e2 e3; exact h' e2.symm
            · rw [h'] at hx; cases hx
            · rw [h'] at hx; injection hx with hx; exact absurd hx (by decide)
            · rw [h'] at hx; injection hx with hx; exact absurd hx (by decide)
          · exact .inl hz
        rw [stars_app _ _ _ hx]
        exact rowL_ext h f f' _ _ _ _ _ _ (by omega) e hr
theorem Ext.row {x : List UInt8} {E E' : PRd} (h : Ext x E E') : ExtR x (rowE E) (rowE E') := fun s _ _ _ _ e hr =>
  rowL_ext h.one _ _ _ _ _ _ _ _ (by simp) e hr
theorem eitL_ext {x : List UInt8} {R R' : PRd} (h : ExtR x R R') :
    ∀ (f f' : Nat) (n : Pt) (s : List UInt8) (k : Nat) (t : Pt) (r : List UInt8) (k' : Nat), f ≤ f' → eitL R f n s k = some (t, r, k') → (r ≠ [] ∨ x = [] ∨ x.head? = some 41) →
      eitL R' f' n (s ++ x) k = some (t, r ++ x, k')
  | 0, f', n, s, k, t, r, k', hf, e, hr => by simp [eitL] at e
  | f + 1, 0, n, s, k, t, r, k', hf, e, hr => by omega
  | f + 1, f' + 1, n, [], k, t, r, k', hf, e, hr => by
    unfold eitL at e; injection e with e; injection e with e1 e2; injection e2 with e2 e3; subst e1 e2 e3
    rcases hr with h' | h' | h'
    · exact absurd rfl h'
    · subst h'; rfl
    · cases x with
      | nil => rfl
      | cons c x => injection h' with h'; subst h'; unfold eitL; simp
  | f + 1, f' + 1, n, c :: s, k, t, r, k', hf, e, hr => by
    rw [List.cons_append]
    unfold eitL at e ⊢
    split at e
    · rename_i hc
      rw [if_pos hc]
      cases hq : R s k with
      | none => rw [hq] at e; cases e
      | some p =>
        obtain ⟨m, s2, k2⟩ := p
        rw [hq] at e
        simp only [] at e
        have hx : s2 ≠ [] ∨ x = [] ∨ x.head? = some 41 ∨ x.head? = some 124 := by
          rcases hr with h' | h' | h'
          · by_cases hz : s2 = []
            · subst hz
              cases f with
              | zero => simp [eitL] at e
              | succ f => unfold eitL at e; injection e with e; injection e with e1 e2; injection e2 with e2 e3; exact absurd e2.symm h'
            · exact .inl hz
          · exact .inr (.inl h')
          · exact .inr (.inr (.inl h'))
        rw [h _ _ _ _ _ hq hx]
        exact eitL_ext h f f' _ _ _ _ _ _ (by omega) e hr
    · rename_i hc
      rw [if_neg hc]
      injection e with e; injection e with e1 e2; injection e2 with e2 e3; subst e1 e2 e3; rfl
theorem Ext.eit {x : List UInt8} {E E' : PRd} (h : Ext x E E') : Ext x (eitE E) (eitE E') := by
  intro s k t r k' e hr
  unfold eitE at e ⊢
  cases hq : rowE E s k with
  | none => rw [hq] at e; cases e
  | some p =>
    obtain ⟨m, s2, k2⟩ := p
    rw [hq] at e
    simp only [] at e
    have hx : s2 ≠ [] ∨ x = [] ∨ x.head? = some 41 ∨ x.head? = some 124 := by
      rcases hr with h' | h' | h'
      · by_cases hz : s2 = []
        · subst hz
          unfold eitL at e; injection e with e; injection e with e1 e2; injection e2 with e2 e3; exact absurd e2.symm h'
        · exact .inl hz
      · exact .inr (.inl h')
      · exact .inr (.inr (.inl h'))
    rw [h.row _ _ _ _ _ hq hx]
    exact eitL_ext h.row _ _ _ _ _ _ _ _ (by simp) e hr
theorem ext_par (x : List UInt8) : ∀ n d, Ext x (parE n) (parE (n + d))
  | 0, _ => fun _ _ _ _ _ e => by cases e
  | n + 1, d => by
    rw [show n + 1 + d = (n + d) + 1 by omega]
    exact (ext_par x n d).eit
theorem ext_par' (x : List UInt8) {n m : Nat} (h : n ≤ m) : Ext x (parE n) (parE m) := by
  have := ext_par x n (m - n)
  rwa [show n + (m - n) = m by omega] at this

/-! ### Where a tree's signs are counted from is no matter to whether nothing fits -/
def NS (E : PRd) : Prop := ∀ s k k' t r k1, E s k = some (t, r, k1) → ∃ t' k1', E s k' = some (t', r, k1') ∧ nul t' = nul t
theorem nul_addStar (m : Pt) : nul (addStar m) = true := by cases m <;> rfl
theorem nul_addRow (n m : Pt) : nul (addRow n m) = (nul n && nul m) := by cases n <;> simp [addRow, nul]
theorem nul_fix (n : Pt) : nul (fixE n) = nul n := by cases n <;> rfl
theorem stars_ns : ∀ (s : List UInt8) (m m' : Pt), nul m' = nul m → (stars m' s).2 = (stars m s).2 ∧ nul (stars m' s).1 = nul (stars m s).1
  | [], m, m', h => ⟨rfl, h⟩
  | c :: s, m, m', h => by
    unfold stars
    by_cases e : c = 42
    · rw [if_pos e, if_pos e]; exact stars_ns s _ _ (by rw [nul_addStar, nul_addStar])
    · rw [if_neg e, if_neg e]; exact ⟨rfl, h⟩
theorem NS.one {E : PRd} (h : NS E) : NS (oneE E) := by
  intro s k k' t r k1 e
  cases s with
  | nil => simp [oneE] at e
  | cons c s =>
    rw [oneE_cons] at e ⊢
    by_cases hc : 97 ≤ c ∧ c ≤ 122
    · rw [if_pos hc] at e ⊢
      injection e with e; injection e with e1 e2; injection e2 with e2 e3; subst e1 e2 e3
      exact ⟨_, _, rfl, rfl⟩
    · rw [if_neg hc] at e ⊢
      by_cases hc2 : c = 40
      · rw [if_pos hc2] at e ⊢
        cases hq : E s k with
        | none => rw [hq] at e; cases e
        | some p =>
          obtain ⟨n, s1, k2⟩ := p
          rw [hq] at e
          obtain ⟨t', k3, e', hn⟩ := h _ _ k' _ _ _ hq
          rw [e']
          cases s1 with
          | nil => cases e
          | cons d s2 =>
            injection e with e; injection e with e1 e2; injection e2 with e2 e3; subst e1 e2 e3
            exact ⟨_, _, rfl, by rw [nul_fix, nul_fix, hn]⟩
      · rw [if_neg hc2] at e; cases e
theorem rowL_ns {O : PRd} (h : NS O) : ∀ (f : Nat) (n n' : Pt) (s : List UInt8) (k k' : Nat) (t : Pt) (r : List UInt8) (k1 : Nat), nul n' = nul n → rowL O f n s k = some (t, r, k1) →
    ∃ t' k1', rowL O f n' s k' = some (t', r, k1') ∧ nul t' = nul t
  | 0, n, n', s, k, k', t, r, k1, hn, e => by simp [rowL] at e
  | f + 1, n, n', [], k, k', t, r, k1, hn, e => by
    unfold rowL at e ⊢; injection e with e; injection e with e1 e2; injection e2 with e2 e3; subst e1 e2 e3
    exact ⟨_, _, rfl, hn⟩
  | f + 1, n, n', c :: s, k, k', t, r, k1, hn, e => by
    unfold rowL at e ⊢
    split at e
    · rename_i hc
      rw [if_pos hc]
      injection e with e; injection e with e1 e2; injection e2 with e2 e3; subst e1 e2 e3
      exact ⟨_, _, rfl, hn⟩
    · rename_i hc
      rw [if_neg hc]
      cases hq : O (c :: s) k with
      | none => rw [hq] at e; cases e
      | some p =>
        obtain ⟨m, s2, k2⟩ := p
        rw [hq] at e
        obtain ⟨m', k3, e', hm⟩ := h _ _ k' _ _ _ hq
        rw [e']
        simp only [] at e ⊢
        obtain ⟨h1, h2⟩ := stars_ns s2 m m' hm
        rw [h1]
        exact rowL_ns h f _ _ _ _ _ _ _ _ (by rw [nul_addRow, nul_addRow, hn, h2]) e
theorem NS.row {E : PRd} (h : NS E) : NS (rowE E) := fun _ _ _ _ _ _ e => rowL_ns h.one _ _ _ _ _ _ _ _ _ rfl e
theorem eitL_ns {R : PRd} (h : NS R) : ∀ (f : Nat) (n n' : Pt) (s : List UInt8) (k k' : Nat) (t : Pt) (r : List UInt8) (k1 : Nat), eitL R f n s k = some (t, r, k1) →
    ∃ t' k1' b, eitL R f n' s k' = some (t', r, k1') ∧ nul t = (nul n || b) ∧ nul t' = (nul n' || b)
  | 0, n, n', s, k, k', t, r, k1, e => by simp [eitL] at e
  | f + 1, n, n', [], k, k', t, r, k1, e => by
    unfold eitL at e ⊢; injection e with e; injection e with e1 e2; injection e2 with e2 e3; subst e1 e2 e3
    exact ⟨_, _, false, rfl, by simp, by simp⟩
  | f + 1, n, n', c :: s, k, k', t, r, k1, e => by
    unfold eitL at e ⊢
    split at e
    · rename_i hc
      rw [if_pos hc]
      cases hq : R s k with
      | none => rw [hq] at e; cases e
      | some p =>
        obtain ⟨m, s2, k2⟩ := p
        rw [hq] at e
        obtain ⟨m', k3, e', hm⟩ := h _ _ k' _ _ _ hq
        rw [e']
        simp only [] at e ⊢
        obtain ⟨t', k4, b, e5, h6, h7⟩ := eitL_ns h f _ (.alt n' m') _ _ k3 _ _ _ e
        refine ⟨t', k4, nul m || b, e5, ?_, ?_⟩
        · rw [h6]; simp [nul, Bool.or_assoc]
        · rw [h7]; simp [nul, Bool.or_assoc, hm]
    · rename_i hc
      rw [if_neg hc]
      injection e with e; injection e with e1 e2; injection e2 with e2 e3; subst e1 e2 e3
      exact ⟨_, _, false, rfl, by simp, by simp⟩
theorem NS.eit {E : PRd} (h : NS E) : NS (eitE E) := by
  intro s k k' t r k1 e
  unfold eitE at e ⊢
  cases hq : rowE E s k with
  | none => rw [hq] at e; cases e
  | some p =>
    obtain ⟨m, s2, k2⟩ := p
    rw [hq] at e
    obtain ⟨m', k3, e', hm⟩ := h.row _ _ k' _ _ _ hq
    rw [e']
    simp only [] at e ⊢
    obtain ⟨t', k4, b, e5, h6, h7⟩ := eitL_ns h.row _ _ m' _ _ k3 _ _ _ e
    exact ⟨t', k4, e5, by rw [h6, h7, hm]⟩
theorem ns_par : ∀ n, NS (parE n)
  | 0 => fun _ _ _ _ _ _ e => by cases e
  | n + 1 => (ns_par n).eit

/-! ### The laws -/
theorem par_some {s : List UInt8} {t : Pt} (h : par s = some t) : ∃ k, parE (s.length + 1) s 0 = some (t, [], k) := by
  unfold par at h
  split at h
  · rename_i t' k' e
    injection h with h; subst h
    exact ⟨_, e⟩
  · cases h
theorem par_of {s : List UInt8} {n k : Nat} {t : Pt} (hn : n ≤ s.length + 1) (h : parE n s 0 = some (t, [], k)) : par s = some t := by
  have := ext_par' [] hn s 0 t [] k h (.inr (.inl rfl))
  rw [List.append_nil] at this
  unfold par
  rw [this]
  rfl
theorem par_of_rest {s : List UInt8} {n k : Nat} {t : Pt} {c : UInt8} {r : List UInt8} (hn : n ≤ s.length + 1) (h : parE n s 0 = some (t, c :: r, k)) : par s = none := by
  have := ext_par' [] hn s 0 t (c :: r) k h (.inl (by simp))
  rw [List.append_nil] at this
  unfold par
  rw [this]
  rfl
/-- With a bracket ahead it is none. -/
theorem par_open {s : List UInt8} {t : Pt} (h : par s = some t) : par (40 :: s) = none := by
  obtain ⟨k, e⟩ := par_some h
  unfold par
  have h1 : oneE (parE (s.length + 1)) (40 :: s) 0 = none := by
    rw [oneE_cons]
    rw [if_neg (by decide), if_pos rfl, e]
  have h2 : rowE (parE (s.length + 1)) (40 :: s) 0 = none := by
    unfold rowE
    rw [List.length_cons]
    unfold rowL
    rw [if_neg (by decide), h1]
  have h3 : parE ((40 :: s).length + 1) (40 :: s) 0 = none := by
    show eitE (parE (s.length + 1)) (40 :: s) 0 = none
    unfold eitE
    rw [h2]
  rw [h3]
/-- With a bracket behind it is none. -/
theorem par_shut {s : List UInt8} {t : Pt} (h : par s = some t) : par (s ++ [41]) = none := by
  obtain ⟨k, e⟩ := par_some h
  have := ext_par' [41] (Nat.le_refl _) s 0 t [] k e (.inr (.inr rfl))
  exact par_of_rest (by simp) this
/-- What stands in brackets is one part. -/
theorem one_br {s x : List UInt8} {t : Pt} (h : par s = some t) (n k : Nat) (hn : s.length + 1 ≤ n) : ∃ t' k', oneE (parE n) (40 :: (s ++ 41 :: x)) k = some (t', x, k') ∧ nul t' = nul t := by
  obtain ⟨k0, e⟩ := par_some h
  obtain ⟨t1, k1, e1, h1⟩ := ns_par _ _ _ k _ _ _ e
  have := ext_par' (41 :: x) hn s k t1 [] k1 e1 (.inr (.inr rfl))
  refine ⟨fixE t1, k1, ?_, by rw [nul_fix, h1]⟩
  rw [oneE_cons]
  rw [if_neg (by decide), if_pos rfl, this]
  rfl
theorem rowL_stop (O : PRd) (f : Nat) (n : Pt) (k : Nat) : rowL O (f + 1) n [] k = some (n, [], k) := rfl
theorem eitL_stop (R : PRd) (f : Nat) (n : Pt) (k : Nat) : eitL R (f + 1) n [] k = some (n, [], k) := rfl
theorem rowL_br {O : PRd} (f : Nat) (n : Pt) (r : List UInt8) (k : Nat) {m : Pt} {s2 : List UInt8} {k2 : Nat} (h : O (40 :: r) k = some (m, s2, k2)) :
    rowL O (f + 1) n (40 :: r) k = rowL O f (addRow n (stars m s2).1) (stars m s2).2 k2 := by
  rw [rowL, if_neg (by decide), h]
theorem par_br {s : List UInt8} {t : Pt} (h : par s = some t) : ∃ t', par (40 :: (s ++ [41])) = some t' := by
  obtain ⟨t', k', e, _⟩ := one_br (x := []) h (s.length + 1) 0 (Nat.le_refl _)
  refine ⟨addRow .emp t', par_of (n := s.length + 2) (k := k') (by simp) ?_⟩
  show eitE (parE (s.length + 1)) _ 0 = _
  unfold eitE rowE
  rw [show (40 :: (s ++ [41])).length + 1 = (s.length + 1) + 1 + 1 by simp, rowL_br _ _ _ _ e]
  rfl
/-- With a star behind its brackets nothing fits it. -/
theorem par_star {s : List UInt8} {t : Pt} (h : par s = some t) : ∃ t', par (40 :: (s ++ [41, 42])) = some t' ∧ nul t' = true := by
  obtain ⟨t', k', e, _⟩ := one_br (x := [42]) h (s.length + 1) 0 (Nat.le_refl _)
  refine ⟨addRow .emp (addStar t'), par_of (n := s.length + 2) (k := k') (by simp) ?_, nul_addStar _⟩
  show eitE (parE (s.length + 1)) _ 0 = _
  unfold eitE rowE
  rw [show (40 :: (s ++ [41, 42])).length + 1 = (s.length + 2) + 1 + 1 by simp, rowL_br _ _ _ _ e]
  rfl
/-- One behind the other one. -/
theorem par_row {p q : List UInt8} {t u : Pt} (hp : par p = some t) (hq : par q = some u) : ∃ v, par (40 :: (p ++ 41 :: 40 :: (q ++ [41]))) = some v ∧ nul v = (nul t && nul u) := by
  obtain ⟨t', k', e, h1⟩ := one_br (x := 40 :: (q ++ [41])) hp (p.length + q.length + 1) 0 (by omega)
  obtain ⟨u', k'', e2, h2⟩ := one_br (x := []) hq (p.length + q.length + 1) k' (by omega)
  refine ⟨addRow (addRow .emp t') u', par_of (n := p.length + q.length + 2) (k := k'') (by simp; omega) ?_, by rw [nul_addRow, nul_addRow, h1, h2]; rfl⟩
  show eitE (parE (p.length + q.length + 1)) _ 0 = _
  unfold eitE rowE
  rw [show (40 :: (p ++ 41 :: 40 :: (q ++ [41]))).length + 1 = (p.length + q.length + 2) + 1 + 1 + 1 by simp only [List.length_cons, List.length_append, List.length_nil]; omega, rowL_br _ _ _ _ e]
  rw [show stars t' (40 :: (q ++ [41])) = (t', 40 :: (q ++ [41])) from rfl, rowL_br _ _ _ _ e2]
  rfl
/-- One or the other one. -/
theorem par_alt {p q : List UInt8} {t u : Pt} (hp : par p = some t) (hq : par q = some u) : ∃ v, par (p ++ 124 :: q) = some v ∧ nul v = (nul t || nul u) := by
  obtain ⟨k, e⟩ := par_some hp
  obtain ⟨j, e2⟩ := par_some hq
  have hN : p.length + 1 ≤ p.length + q.length + 1 := by omega
  have hM : q.length + 1 ≤ p.length + q.length + 1 := by omega
  have a1 := ext_par' [] hN p 0 t [] k e (.inr (.inl rfl))
  have a2 := ext_par' [] hM q 0 u [] j e2 (.inr (.inl rfl))
  rw [List.append_nil] at a1 a2
  have hX : Ext (124 :: q) (parE (p.length + q.length)) (parE (p.length + q.length)) := ext_par' _ (Nat.le_refl _)
  have b1 : eitE (parE (p.length + q.length)) p 0 = some (t, [], k) := a1
  have b2 : eitE (parE (p.length + q.length)) q 0 = some (u, [], j) := a2
  have hNS : NS (rowE (parE (p.length + q.length))) := (ns_par _).row
  -- the loop on p goes on behind it
  have key : ∀ (f : Nat) (n : Pt) (s : List UInt8) (k : Nat) (t : Pt) (k' : Nat), eitL (rowE (parE (p.length + q.length))) f n s k = some (t, [], k') → ∀ f', f + q.length + 1 ≤ f' →
      ∃ f2, q.length + 2 ≤ f2 ∧ eitL (rowE (parE (p.length + q.length))) f' n (s ++ 124 :: q) k = eitL (rowE (parE (p.length + q.length))) f2 t (124 :: q) k' := by
    intro f
    induction f with
    | zero => intro n s k t k' e; simp [eitL] at e
    | succ f ih =>
      intro n s k t k' e f' hf
      cases s with
      | nil =>
        unfold eitL at e; injection e with e; injection e with e1 e2; injection e2 with e2 e3; subst e1 e3
        exact ⟨f', by omega, rfl⟩
      | cons c s =>
        obtain ⟨f', rfl⟩ : ∃ g, f' = g + 1 := ⟨f' - 1, by omega⟩
        unfold eitL at e
        split at e
        · rename_i hc
          cases hq' : rowE (parE (p.length + q.length)) s k with
          | none => rw [hq'] at e; cases e
          | some z =>
            obtain ⟨m, s2, k2⟩ := z
            rw [hq'] at e
            simp only [] at e
            have hx := hX.row _ _ _ _ _ hq' (.inr (.inr (.inr rfl)))
            obtain ⟨f2, h2, h3⟩ := ih _ _ _ _ _ e f' (by omega)
            refine ⟨f2, h2, ?_⟩
            rw [List.cons_append, eitL, if_pos hc, hx]
            exact h3
        · injection e with e; injection e with e1 e2; injection e2 with e2 e3; cases e2
  unfold eitE at b1 b2
  cases hr1 : rowE (parE (p.length + q.length)) p 0 with
  | none => rw [hr1] at b1; cases b1
  | some z =>
    obtain ⟨n, s2, k2⟩ := z
    rw [hr1] at b1
    simp only [] at b1
    have hx := hX.row _ _ _ _ _ hr1 (.inr (.inr (.inr rfl)))
    obtain ⟨f2, h2, h3⟩ := key _ _ _ _ _ _ b1 ((s2 ++ 124 :: q).length + 1) (by simp; omega)
    obtain ⟨f2, rfl⟩ : ∃ g, f2 = g + 1 := ⟨f2 - 1, by omega⟩
    cases hr2 : rowE (parE (p.length + q.length)) q 0 with
    | none => rw [hr2] at b2; cases b2
    | some z =>
      obtain ⟨m, s3, k3⟩ := z
      rw [hr2] at b2
      simp only [] at b2
      obtain ⟨m', k4, e4, hm⟩ := hNS _ _ k _ _ _ hr2
      have hl := (sh_par (p.length + q.length)).row _ _ _ _ _ hr2
      obtain ⟨v, k5, b, e5, h6, h7⟩ := eitL_ns hNS _ _ (.alt t m') _ _ k4 _ _ _ b2
      have hE : Ext [] (parE (p.length + q.length)) (parE (p.length + q.length)) := ext_par' _ (Nat.le_refl _)
      have e6 := eitL_ext hE.row _ f2 _ _ _ _ _ _ (by omega) e5 (.inr (.inl rfl))
      rw [List.append_nil] at e6
      refine ⟨v, par_of (n := p.length + q.length + 1) (k := k5) (by simp only [List.length_append, List.length_cons]; omega) ?_, by rw [h7, h6]; simp [nul, hm, Bool.or_assoc]⟩
      show eitE (parE (p.length + q.length)) _ 0 = _
      unfold eitE
      rw [hx]
      show eitL _ _ n (s2 ++ 124 :: q) k2 = _
      rw [h3, eitL, if_pos rfl, e4]
      exact e6
end Go.Proofs.YtchhbnnpannnhaaGreatDoor

namespace Go.Proofs.YtchhbnnpannnhaaGreatDoor
set_option linter.unusedVariables false

/-- The document's patterns. -/
inductive Rt where
  | emp
  | sgn (c : UInt8)
  | alt (l r : Rt)
  | seq (l r : Rt)
  | str (l : Rt)
def starsR : Rt → List UInt8 → Rt × List UInt8
  | m, [] => (m, [])
  | m, c :: s => if c = 42 then starsR (.str m) s else (m, c :: s)
def addR : Option Rt → Rt → Rt
  | none, m => m
  | some n, m => .seq n m
abbrev RRes := Option (Rt × List UInt8)
abbrev RRd := List UInt8 → RRes
def rowRL (O : RRd) : Nat → Option Rt → List UInt8 → RRes
  | 0, _, _ => none
  | _ + 1, n, [] => some (n.getD .emp, [])
  | f + 1, n, c :: r => if c = 124 ∨ c = 41 then some (n.getD .emp, c :: r) else
    match O (c :: r) with
    | none => none
    | some (m, s2) => rowRL O f (some (addR n (starsR m s2).1)) (starsR m s2).2
def eitRL (R : RRd) : Nat → Rt → List UInt8 → RRes
  | 0, _, _ => none
  | _ + 1, n, [] => some (n, [])
  | f + 1, n, c :: r => if c = 124 then
      match R r with
      | none => none
      | some (m, s2) => eitRL R f (.alt n m) s2
    else some (n, c :: r)
def oneR (E : RRd) : RRd
  | [] => none
  | c :: s => if 97 ≤ c ∧ c ≤ 122 then some (.sgn c, s)
    else if c = 40 then
      match E s with
      | none => none
      | some (_, []) => none
      | some (n, d :: s2) => if d = 41 then some (n, s2) else none
    else none
theorem oneR_cons (E : RRd) (c : UInt8) (s : List UInt8) : oneR E (c :: s) = if 97 ≤ c ∧ c ≤ 122 then some (.sgn c, s)
    else if c = 40 then
      match E s with
      | none => none
      | some (_, []) => none
      | some (n, d :: s2) => if d = 41 then some (n, s2) else none
    else none := rfl
def rowR (E : RRd) : RRd := fun s => rowRL (oneR E) (s.length + 1) none s
def eitR (E : RRd) : RRd := fun s =>
  match rowR E s with
  | none => none
  | some (n, s2) => eitRL (rowR E) (s2.length + 1) n s2
def parR : Nat → RRd
  | 0 => fun _ => none
  | n + 1 => eitR (parR n)
/-- A pattern's tree, the document's way. -/
def rdR (s : List UInt8) : Option Rt :=
  match parR (s.length + 1) s with
  | some (t, []) => some t
  | _ => none

/-- Two trees of one pattern. -/
inductive Rel : Rt → Pt → Prop
  | emp : Rel .emp .emp
  | empS : Rel .emp (.str .non)
  | sgn (c : UInt8) (k : Nat) : Rel (.sgn c) (.sgn c k)
  | alt {a b : Rt} {x y : Pt} : Rel a x → Rel b y → Rel (.alt a b) (.alt x y)
  | seq {a b : Rt} {x y : Pt} : Rel a x → Rel b y → Rel (.seq a b) (.seq x y)
  | str {a : Rt} {x : Pt} : Rel a x → Rel (.str a) (.str x)
  | strS {a : Rt} {x : Pt} : Rel a (.str x) → Rel (.str a) (.str x)
theorem Rel.star {a : Rt} {x : Pt} (h : Rel a x) : Rel (.str a) (addStar x) := by
  cases x with
  | str l => exact .strS h
  | _ => exact .str h
theorem Rel.fix {a : Rt} {x : Pt} (h : Rel a x) : Rel a (fixE x) := by
  cases x with
  | emp => cases h; exact .empS
  | _ => exact h
theorem fix_ne (x : Pt) : fixE x ≠ .emp := by cases x <;> simp [fixE]
theorem addStar_ne (x : Pt) : addStar x ≠ .emp := by cases x <;> simp [addStar]
theorem stars_rel : ∀ (s : List UInt8) (x : Pt) (a : Rt), Rel a x → x ≠ .emp → (starsR a s).2 = (stars x s).2 ∧ Rel (starsR a s).1 (stars x s).1 ∧ (stars x s).1 ≠ .emp
  | [], x, a, h, hx => ⟨rfl, h, hx⟩
  | c :: s, x, a, h, hx => by
    unfold starsR stars
    by_cases e : c = 42
    · rw [if_pos e, if_pos e]; exact stars_rel s _ _ h.star (addStar_ne x)
    · rw [if_neg e, if_neg e]; exact ⟨rfl, h, hx⟩
/-- Both read alike. -/
def LS1 (O : PRd) (O' : RRd) : Prop := ∀ s k, (O s k = none → O' s = none) ∧ (∀ t r k', O s k = some (t, r, k') → ∃ rt, O' s = some (rt, r) ∧ Rel rt t ∧ t ≠ .emp)
def LSR (O : PRd) (O' : RRd) : Prop := ∀ s k, (O s k = none → O' s = none) ∧ (∀ t r k', O s k = some (t, r, k') → ∃ rt, O' s = some (rt, r) ∧ Rel rt t ∧ (r = [] ∨ r.head? = some 124 ∨ r.head? = some 41))
def LSE (O : PRd) (O' : RRd) : Prop := ∀ s k, (O s k = none → O' s = none) ∧ (∀ t r k', O s k = some (t, r, k') → ∃ rt, O' s = some (rt, r) ∧ Rel rt t ∧ (r = [] ∨ r.head? = some 41))
theorem LSE.one {E : PRd} {E' : RRd} (h : LSE E E') : LS1 (oneE E) (oneR E') := by
  intro s k
  cases s with
  | nil => exact ⟨fun _ => rfl, fun t r k' e => by simp [oneE] at e⟩
  | cons c s =>
    rw [oneE_cons, oneR_cons]
    by_cases hc : 97 ≤ c ∧ c ≤ 122
    · rw [if_pos hc, if_pos hc]
      refine ⟨fun e => (by cases e), fun t r k' e => ?_⟩
      injection e with e; injection e with e1 e2; injection e2 with e2 e3; subst e1 e2 e3
      exact ⟨_, rfl, .sgn c k, by simp⟩
    · rw [if_neg hc, if_neg hc]
      by_cases hc2 : c = 40
      · rw [if_pos hc2, if_pos hc2]
        obtain ⟨h1, h2⟩ := h s k
        cases hq : E s k with
        | none => rw [h1 hq]; exact ⟨fun _ => rfl, fun _ _ _ e => by cases e⟩
        | some p =>
          obtain ⟨n, s1, k1⟩ := p
          obtain ⟨rt, e1, hr, hd⟩ := h2 _ _ _ hq
          rw [e1]
          cases s1 with
          | nil => exact ⟨fun _ => rfl, fun _ _ _ e => by cases e⟩
          | cons d s2 =>
            have hd41 : d = 41 := by
              rcases hd with hd | hd
              · cases hd
              · injection hd
            subst hd41
            refine ⟨fun e => (by cases e), fun t r k' e => ?_⟩
            injection e with e; injection e with e1 e2; injection e2 with e2 e3; subst e1 e2 e3
            exact ⟨rt, rfl, hr.fix, fix_ne n⟩
      · rw [if_neg hc2, if_neg hc2]; exact ⟨fun _ => rfl, fun _ _ _ e => by cases e⟩
/-- What a row holds so far, on both sides. -/
def RowRel (n : Option Rt) (x : Pt) : Prop := match n with
  | none => x = .emp
  | some a => Rel a x ∧ x ≠ .emp
theorem RowRel.getD {n : Option Rt} {x : Pt} (h : RowRel n x) : Rel (n.getD .emp) x := by
  cases n with
  | none => rw [show x = .emp from h]; exact .emp
  | some a => exact h.1
theorem RowRel.add {n : Option Rt} {x : Pt} (h : RowRel n x) {a : Rt} {y : Pt} (h2 : Rel a y) (h3 : y ≠ .emp) : RowRel (some (addR n a)) (addRow x y) := by
  cases n with
  | none => rw [show x = .emp from h]; exact ⟨h2, h3⟩
  | some b =>
    obtain ⟨h4, h5⟩ := h
    cases x with
    | emp => exact absurd rfl h5
    | _ => exact ⟨.seq h4 h2, by simp [addRow]⟩
theorem rowL_rel {O : PRd} {O' : RRd} (h : LS1 O O') : ∀ (f : Nat) (n : Option Rt) (x : Pt) (s : List UInt8) (k : Nat), RowRel n x →
    (rowL O f x s k = none → rowRL O' f n s = none) ∧ (∀ t r k', rowL O f x s k = some (t, r, k') → ∃ rt, rowRL O' f n s = some (rt, r) ∧ Rel rt t ∧ (r = [] ∨ r.head? = some 124 ∨ r.head? = some 41))
  | 0, n, x, s, k, hn => ⟨fun _ => rfl, fun t r k' e => by simp [rowL] at e⟩
  | f + 1, n, x, [], k, hn => by
    unfold rowL rowRL
    refine ⟨fun e => (by cases e), fun t r k' e => ?_⟩
    injection e with e; injection e with e1 e2; injection e2 with e2 e3; subst e1 e2 e3
    exact ⟨_, rfl, hn.getD, .inl rfl⟩
  | f + 1, n, x, c :: s, k, hn => by
    unfold rowL rowRL
    by_cases hc : c = 124 ∨ c = 41
    · rw [if_pos hc, if_pos hc]
      refine ⟨fun e => (by cases e), fun t r k' e => ?_⟩
      injection e with e; injection e with e1 e2; injection e2 with e2 e3; subst e1 e2 e3
      refine ⟨_, rfl, hn.getD, .inr ?_⟩
      rcases hc with rfl | rfl
      · exact .inl rfl
      · exact .inr rfl
    · rw [if_neg hc, if_neg hc]
      obtain ⟨h1, h2⟩ := h (c :: s) k
      cases hq : O (c :: s) k with
      | none => rw [h1 hq]; exact ⟨fun _ => rfl, fun _ _ _ e => by cases e⟩
      | some p =>
        obtain ⟨m, s2, k2⟩ := p
        obtain ⟨rt, e1, hr, hne⟩ := h2 _ _ _ hq
        rw [e1]
        simp only []
        obtain ⟨q1, q2, q3⟩ := stars_rel s2 m rt hr hne
        rw [q1]
        exact rowL_rel h f _ _ _ _ (hn.add q2 q3)
theorem LSE.row {E : PRd} {E' : RRd} (h : LSE E E') : LSR (rowE E) (rowR E') := fun s k => rowL_rel h.one _ _ _ _ _ rfl
theorem eitL_rel {R : PRd} {R' : RRd} (h : LSR R R') : ∀ (f : Nat) (a : Rt) (x : Pt) (s : List UInt8) (k : Nat), Rel a x → (s = [] ∨ s.head? = some 124 ∨ s.head? = some 41) →
    (eitL R f x s k = none → eitRL R' f a s = none) ∧ (∀ t r k', eitL R f x s k = some (t, r, k') → ∃ rt, eitRL R' f a s = some (rt, r) ∧ Rel rt t ∧ (r = [] ∨ r.head? = some 41))
  | 0, n, x, s, k, hn, hs => ⟨fun _ => rfl, fun t r k' e => by simp [eitL] at e⟩
  | f + 1, n, x, [], k, hn, hs => by
    unfold eitL eitRL
    refine ⟨fun e => (by cases e), fun t r k' e => ?_⟩
    injection e with e; injection e with e1 e2; injection e2 with e2 e3; subst e1 e2 e3
    exact ⟨_, rfl, hn, .inl rfl⟩
  | f + 1, n, x, c :: s, k, hn, hs => by
    unfold eitL eitRL
    by_cases hc : c = 124
    · rw [if_pos hc, if_pos hc]
      obtain ⟨h1, h2⟩ := h s k
      cases hq : R s k with
      | none => rw [h1 hq]; exact ⟨fun _ => rfl, fun _ _ _ e => by cases e⟩
      | some p =>
        obtain ⟨m, s2, k2⟩ := p
        obtain ⟨rt, e1, hr, hne⟩ := h2 _ _ _ hq
        rw [e1]
        exact eitL_rel h f _ _ _ _ (.alt hn hr) hne
    · rw [if_neg hc, if_neg hc]
      refine ⟨fun e => (by cases e), fun t r k' e => ?_⟩
      injection e with e; injection e with e1 e2; injection e2 with e2 e3; subst e1 e2 e3
      refine ⟨_, rfl, hn, .inr ?_⟩
      rcases hs with hs | hs | hs
      · cases hs
      · injection hs with hs; exact absurd hs hc
      · exact hs
theorem LSE.eit {E : PRd} {E' : RRd} (h : LSE E E') : LSE (eitE E) (eitR E') := by
  intro s k
  unfold eitE eitR
  obtain ⟨h1, h2⟩ := h.row s k
  cases hq : rowE E s k with
  | none => rw [h1 hq]; exact ⟨fun _ => rfl, fun _ _ _ e => by cases e⟩
  | some p =>
    obtain ⟨m, s2, k2⟩ := p
    obtain ⟨rt, e1, hr, hne⟩ := h2 _ _ _ hq
    rw [e1]
    exact eitL_rel h.row _ _ _ _ _ hr hne
theorem lse_par : ∀ n, LSE (parE n) (parR n)
  | 0 => fun _ _ => ⟨fun _ => rfl, fun _ _ _ e => by cases e⟩
  | n + 1 => (lse_par n).eit
/-- Both read the same patterns. -/
theorem rd_par (s : List UInt8) : match par s, rdR s with
    | none, none => True
    | some t, some rt => Rel rt t
    | _, _ => False := by
  obtain ⟨h1, h2⟩ := lse_par (s.length + 1) s 0
  unfold par rdR
  cases hq : parE (s.length + 1) s 0 with
  | none => rw [h1 hq]; trivial
  | some p =>
    obtain ⟨t, r, k⟩ := p
    obtain ⟨rt, e1, hr, _⟩ := h2 _ _ _ hq
    rw [e1]
    cases r with
    | nil => exact hr
    | cons c r => trivial
theorem par_none {s : List UInt8} (h : rdR s = none) : par s = none := by
  have := rd_par s
  rw [h] at this
  cases hp : par s with
  | none => rfl
  | some t => rw [hp] at this; exact this.elim
theorem rd_some {s : List UInt8} {t : Pt} (h : par s = some t) : ∃ rt, rdR s = some rt ∧ Rel rt t := by
  have := rd_par s
  rw [h] at this
  cases hp : rdR s with
  | none => rw [hp] at this; exact this.elim
  | some rt => rw [hp] at this; exact ⟨rt, rfl, this⟩
theorem rd_none {s : List UInt8} (h : par s = none) : rdR s = none := by
  have := rd_par s
  rw [h] at this
  cases hp : rdR s with
  | none => rfl
  | some t => rw [hp] at this; exact this.elim

/-! ### A tree's signs, in order, and their numbers -/
def isLo (c : UInt8) : Bool := decide (97 ≤ c ∧ c ≤ 122)
def lets (s : List UInt8) : List UInt8 := s.filter isLo
def leaves : Pt → List UInt8
  | .sgn c _ => [c]
  | .alt l r => leaves l ++ leaves r
  | .seq l r => leaves l ++ leaves r
  | .str l => leaves l
  | _ => []
/-- The signs of a tree are numbered from a on, up to b. -/
def Num : Pt → Nat → Nat → Prop
  | .sgn _ k, a, b => k = a ∧ b = a + 1
  | .alt l r, a, b => ∃ m, Num l a m ∧ Num r m b
  | .seq l r, a, b => ∃ m, Num l a m ∧ Num r m b
  | .str l, a, b => Num l a b
  | _, a, b => b = a
theorem Num.len : ∀ {t : Pt} {a b : Nat}, Num t a b → b = a + (leaves t).length
  | .non, a, b, h => h
  | .emp, a, b, h => h
  | .sgn _ _, a, b, h => h.2
  | .alt l r, a, b, h => by
    obtain ⟨m, h1, h2⟩ := h
    have := Num.len h1; have := Num.len h2
    simp [leaves]; omega
  | .seq l r, a, b, h => by
    obtain ⟨m, h1, h2⟩ := h
    have := Num.len h1; have := Num.len h2
    simp [leaves]; omega
  | .str l, a, b, h => by have := Num.len (t := l) h; simpa [leaves] using this
def Lv (E : PRd) : Prop := ∀ s k t r k', E s k = some (t, r, k') → ∃ u, s = u ++ r ∧ leaves t = lets u ∧ Num t k k'
theorem stars_lv : ∀ (s : List UInt8) (m : Pt) (a b : Nat), Num m a b → ∃ u, s = u ++ (stars m s).2 ∧ lets u = [] ∧ leaves (stars m s).1 = leaves m ∧ Num (stars m s).1 a b
  | [], m, a, b, h => ⟨[], rfl, rfl, rfl, h⟩
  | c :: s, m, a, b, h => by
    unfold stars
    by_cases e : c = 42
    · rw [if_pos e]
      have h1 : leaves (addStar m) = leaves m := by cases m <;> rfl
      have h2 : Num (addStar m) a b := by cases m <;> exact h
      obtain ⟨u, q1, q2, q3, q4⟩ := stars_lv s _ a b h2
      refine ⟨c :: u, by rw [List.cons_append, ← q1], ?_, q3.trans h1, q4⟩
      subst e
      rw [lets, List.filter_cons_of_neg (by decide)]
      exact q2
    · rw [if_neg e]; exact ⟨[], rfl, rfl, rfl, h⟩
theorem lets_app (a b : List UInt8) : lets (a ++ b) = lets a ++ lets b := by unfold lets; rw [List.filter_append]
theorem lets_no {c : UInt8} (h : ¬ (97 ≤ c ∧ c ≤ 122)) (l : List UInt8) : lets (c :: l) = lets l := by
  unfold lets; rw [List.filter_cons_of_neg]; unfold isLo; simpa using h
theorem Lv.one {E : PRd} (h : Lv E) (hd : ∀ s k t r k', E s k = some (t, r, k') → r = [] ∨ r.head? = some 41) : Lv (oneE E) := by
  intro s k t r k' e
  cases s with
  | nil => simp [oneE] at e
  | cons c s =>
    rw [oneE_cons] at e
    by_cases hc : 97 ≤ c ∧ c ≤ 122
    · rw [if_pos hc] at e
      injection e with e; injection e with e1 e2; injection e2 with e2 e3; subst e1 e2 e3
      refine ⟨[c], rfl, ?_, rfl, rfl⟩
      unfold lets
      rw [List.filter_cons_of_pos (by unfold isLo; simpa using hc)]; rfl
    · rw [if_neg hc] at e
      by_cases hc2 : c = 40
      · rw [if_pos hc2] at e
        cases hq : E s k with
        | none => rw [hq] at e; cases e
        | some p =>
          obtain ⟨n, s1, k1⟩ := p
          rw [hq] at e
          obtain ⟨u, q1, q2, q3⟩ := h _ _ _ _ _ hq
          cases s1 with
          | nil => cases e
          | cons d s2 =>
            injection e with e; injection e with e1 e2; injection e2 with e2 e3; subst e1 e2 e3
            have hd41 : d = 41 := by
              rcases hd _ _ _ _ _ hq with hd | hd
              · cases hd
              · injection hd
            subst hd41 hc2
            refine ⟨40 :: (u ++ [41]), by rw [q1]; simp, ?_, ?_⟩
            · rw [lets_no (by decide), lets_app, ← q2, show lets [41] = [] from rfl, List.append_nil]
              cases n <;> rfl
            · cases n <;> exact q3
      · rw [if_neg hc2] at e; cases e
theorem rowL_lv {O : PRd} (h : Lv O) (hne : ∀ s k t r k', O s k = some (t, r, k') → t ≠ .emp) : ∀ (f : Nat) (n : Pt) (s : List UInt8) (k : Nat) (t : Pt) (r : List UInt8) (k' : Nat), rowL O f n s k = some (t, r, k') → ∀ a, Num n a k →
    ∃ u, s = u ++ r ∧ leaves t = leaves n ++ lets u ∧ Num t a k'
  | 0, n, s, k, t, r, k', e, a, hn => by simp [rowL] at e
  | f + 1, n, [], k, t, r, k', e, a, hn => by
    unfold rowL at e; injection e with e; injection e with e1 e2; injection e2 with e2 e3; subst e1 e2 e3
    exact ⟨[], rfl, by simp [lets], hn⟩
  | f + 1, n, c :: s, k, t, r, k', e, a, hn => by
    unfold rowL at e
    split at e
    · injection e with e; injection e with e1 e2; injection e2 with e2 e3; subst e1 e2 e3
      exact ⟨[], rfl, by simp [lets], hn⟩
    · cases hq : O (c :: s) k with
      | none => rw [hq] at e; cases e
      | some p =>
        obtain ⟨m, s2, k2⟩ := p
        rw [hq] at e
        obtain ⟨u, q1, q2, q3⟩ := h _ _ _ _ _ hq
        obtain ⟨v, p1, p2, p3, p4⟩ := stars_lv s2 m k k2 q3
        have hN : Num (addRow n (stars m s2).1) a k2 ∧ leaves (addRow n (stars m s2).1) = leaves n ++ lets u := by
          cases n with
          | emp =>
            have : k = a := hn
            subst this
            exact ⟨p4, by show leaves (stars m s2).1 = _; rw [p3, q2]; rfl⟩
          | _ => exact ⟨⟨k, hn, p4⟩, by simp only [addRow, leaves]; rw [p3, q2]⟩
        obtain ⟨x, z1, z2, z3⟩ := rowL_lv h hne f _ _ _ _ _ _ e a hN.1
        refine ⟨u ++ v ++ x, ?_, ?_, z3⟩
        · rw [q1]
          conv => lhs; rw [p1, z1]
          simp
        · rw [z2, hN.2, lets_app, lets_app, p2]; simp
theorem one_ne (E : PRd) : ∀ s k t r k', oneE E s k = some (t, r, k') → t ≠ .emp := by
  intro s k t r k' e
  cases s with
  | nil => simp [oneE] at e
  | cons c s =>
    rw [oneE_cons] at e
    split at e
    · injection e with e; injection e with e1 e2; subst e1; simp
    · split at e
      · cases hq : E s k with
        | none => rw [hq] at e; cases e
        | some p =>
          obtain ⟨n, s1, k1⟩ := p
          rw [hq] at e
          cases s1 with
          | nil => cases e
          | cons d s2 =>
            injection e with e; injection e with e1 e2; subst e1; exact fix_ne n
      · cases e
theorem Lv.row {E : PRd} (h : Lv E) (hd : ∀ s k t r k', E s k = some (t, r, k') → r = [] ∨ r.head? = some 41) : Lv (rowE E) := by
  intro s k t r k' e
  obtain ⟨u, q1, q2, q3⟩ := rowL_lv (h.one hd) (one_ne E) _ _ _ _ _ _ _ e k rfl
  exact ⟨u, q1, by rw [q2]; rfl, q3⟩
theorem eitL_lv {R : PRd} (h : Lv R) : ∀ (f : Nat) (n : Pt) (s : List UInt8) (k : Nat) (t : Pt) (r : List UInt8) (k' : Nat), eitL R f n s k = some (t, r, k') → ∀ a, Num n a k →
    ∃ u, s = u ++ r ∧ leaves t = leaves n ++ lets u ∧ Num t a k'
  | 0, n, s, k, t, r, k', e, a, hn => by simp [eitL] at e
  | f + 1, n, [], k, t, r, k', e, a, hn => by
    unfold eitL at e; injection e with e; injection e with e1 e2; injection e2 with e2 e3; subst e1 e2 e3
    exact ⟨[], rfl, by simp [lets], hn⟩
  | f + 1, n, c :: s, k, t, r, k', e, a, hn => by
    unfold eitL at e
    split at e
    · rename_i hc
      subst hc
      cases hq : R s k with
      | none => rw [hq] at e; cases e
      | some p =>
        obtain ⟨m, s2, k2⟩ := p
        rw [hq] at e
        obtain ⟨u, q1, q2, q3⟩ := h _ _ _ _ _ hq
        obtain ⟨x, z1, z2, z3⟩ := eitL_lv h f _ _ _ _ _ _ e a ⟨k, hn, q3⟩
        refine ⟨124 :: (u ++ x), ?_, ?_, z3⟩
        · rw [q1]
          conv => lhs; rw [z1]
          simp
        · rw [z2, lets_no (by decide), lets_app, ← q2]; simp [leaves]
    · injection e with e; injection e with e1 e2; injection e2 with e2 e3; subst e1 e2 e3
      exact ⟨[], rfl, by simp [lets], hn⟩
theorem Lv.eit {E : PRd} (h : Lv E) (hd : ∀ s k t r k', E s k = some (t, r, k') → r = [] ∨ r.head? = some 41) : Lv (eitE E) := by
  intro s k t r k' e
  unfold eitE at e
  cases hq : rowE E s k with
  | none => rw [hq] at e; cases e
  | some p =>
    obtain ⟨m, s2, k2⟩ := p
    rw [hq] at e
    obtain ⟨u, q1, q2, q3⟩ := h.row hd _ _ _ _ _ hq
    obtain ⟨x, z1, z2, z3⟩ := eitL_lv (h.row hd) _ _ _ _ _ _ _ e k q3
    refine ⟨u ++ x, ?_, ?_, z3⟩
    · rw [q1]
      conv => lhs; rw [z1]
      simp
    · rw [z2, q2, lets_app]
theorem hd_par (n : Nat) : ∀ s k t r k', parE n s k = some (t, r, k') → r = [] ∨ r.head? = some 41 := fun s k t r k' e => by
  obtain ⟨_, _, _, h⟩ := (lse_par n s k).2 _ _ _ e
  exact h
theorem lv_par : ∀ n, Lv (parE n)
  | 0 => fun _ _ _ _ _ e => by cases e
  | n + 1 => (lv_par n).eit (hd_par n)
/-- The signs of a pattern's tree are the pattern's letters, numbered from 0 on. -/
theorem par_leaves {s : List UInt8} {t : Pt} (h : par s = some t) : leaves t = lets s ∧ Num t 0 (lets s).length := by
  obtain ⟨k, e⟩ := par_some h
  obtain ⟨u, q1, q2, q3⟩ := lv_par _ _ _ _ _ _ e
  rw [List.append_nil] at q1
  subst q1
  have := q3.len
  rw [q2] at this
  refine ⟨q2, ?_⟩
  rw [show (lets s).length = k by omega]
  exact q3
end Go.Proofs.YtchhbnnpannnhaaGreatDoor

namespace Go.Proofs.YtchhbnnpannnhaaGreatDoor
set_option linter.unusedVariables false

/-- So many times: fuel is the text's length. -/
def mtS (M : List UInt8 → Bool) : Nat → List UInt8 → Bool
  | 0, s => s.isEmpty
  | f + 1, s => s.isEmpty || (List.range s.length).any fun i => M (s.take (i + 1)) && mtS M f (s.drop (i + 1))
def mt : Rt → List UInt8 → Bool
  | .emp, s => s.isEmpty
  | .sgn c, s => s == [c]
  | .alt l r, s => mt l s || mt r s
  | .seq l r, s => (List.range (s.length + 1)).any fun i => mt l (s.take i) && mt r (s.drop i)
  | .str l, s => mtS (mt l) s.length s
theorem any_congr' {α : Type} {l : List α} {p q : α → Bool} (h : ∀ x ∈ l, p x = q x) : l.any p = l.any q := by
  induction l with
  | nil => rfl
  | cons a l ih => rw [List.any_cons, List.any_cons, h a (by simp), ih fun x hx => h x (by simp [hx])]
theorem mtS_fuel (M : List UInt8 → Bool) : ∀ (f g : Nat) (s : List UInt8), s.length ≤ f → s.length ≤ g → mtS M f s = mtS M g s
  | 0, 0, s, _, _ => rfl
  | 0, g + 1, s, h, _ => by
    have : s = [] := List.length_eq_zero_iff.1 (by omega)
    subst this; rfl
  | f + 1, 0, s, _, h => by
    have : s = [] := List.length_eq_zero_iff.1 (by omega)
    subst this; rfl
  | f + 1, g + 1, s, hf, hg => by
    unfold mtS
    congr 1
    refine any_congr' fun i hi => ?_
    have : i < s.length := by simpa using hi
    rw [mtS_fuel M f g _ (by rw [List.length_drop]; omega) (by rw [List.length_drop]; omega)]
/-- A star, unfolded. -/
theorem mt_str (l : Rt) (s : List UInt8) : mt (.str l) s = (s.isEmpty || (List.range s.length).any fun i => mt l (s.take (i + 1)) && mt (.str l) (s.drop (i + 1))) := by
  show mtS (mt l) s.length s = _
  cases s with
  | nil => rfl
  | cons c s =>
    rw [List.length_cons]
    unfold mtS
    congr 1
    refine any_congr' fun i hi => ?_
    have : i < s.length + 1 := by simpa using hi
    show _ = (mt l _ && mtS (mt l) (List.drop (i + 1) (c :: s)).length _)
    rw [mtS_fuel _ s.length _ _ (by simp) (Nat.le_refl _)]
theorem mt_nul {a : Rt} {x : Pt} (h : Rel a x) : mt a [] = nul x := by
  induction h with
  | emp => rfl
  | empS => rfl
  | sgn c k => rfl
  | alt _ _ h1 h2 => simp only [mt, nul, h1, h2]
  | seq _ _ h1 h2 => simp [mt, nul, h1, h2]
  | str _ _ => rfl
  | strS _ _ => rfl
def lvR : Rt → List UInt8
  | .emp => []
  | .sgn c => [c]
  | .alt l r => lvR l ++ lvR r
  | .seq l r => lvR l ++ lvR r
  | .str l => lvR l
theorem lv_rel {a : Rt} {x : Pt} (h : Rel a x) : lvR a = leaves x := by
  induction h with
  | emp => rfl
  | empS => rfl
  | sgn c k => rfl
  | alt _ _ h1 h2 => simp only [lvR, leaves, h1, h2]
  | seq _ _ h1 h2 => simp only [lvR, leaves, h1, h2]
  | str _ h1 => simpa [lvR, leaves] using h1
  | strS _ h1 => simpa [lvR, leaves] using h1
theorem mem_parts {c : UInt8} {s : List UInt8} (i : Nat) (h : c ∈ s) : c ∈ s.take i ∨ c ∈ s.drop i := by
  rw [← List.take_append_drop i s, List.mem_append] at h
  exact h
theorem mtS_mem {l : Rt} (h : ∀ s, mt l s = true → ∀ c ∈ s, c ∈ lvR l) : ∀ (f : Nat) (s : List UInt8), mtS (mt l) f s = true → ∀ c ∈ s, c ∈ lvR l
  | 0, s, hm, c, hc => by
    unfold mtS at hm
    have : s = [] := by simpa using hm
    subst this; cases hc
  | f + 1, s, hm, c, hc => by
    unfold mtS at hm
    rw [Bool.or_eq_true] at hm
    rcases hm with hm | hm
    · have : s = [] := by simpa using hm
      subst this; cases hc
    · rw [List.any_eq_true] at hm
      obtain ⟨i, _, hi⟩ := hm
      rw [Bool.and_eq_true] at hi
      rcases mem_parts (i + 1) hc with h' | h'
      · exact h _ hi.1 c h'
      · exact mtS_mem h f _ hi.2 c h'
/-- What fits consists of letters of the pattern. -/
theorem mt_mem : ∀ (a : Rt) (s : List UInt8), mt a s = true → ∀ c ∈ s, c ∈ lvR a
  | .emp, s, hm, c, hc => by
    have : s = [] := by simpa [mt] using hm
    subst this; cases hc
  | .sgn d, s, hm, c, hc => by
    have : s = [d] := by simpa [mt] using hm
    subst this; exact hc
  | .alt l r, s, hm, c, hc => by
    unfold mt at hm
    rw [Bool.or_eq_true] at hm
    unfold lvR
    rw [List.mem_append]
    rcases hm with hm | hm
    · exact .inl (mt_mem l s hm c hc)
    · exact .inr (mt_mem r s hm c hc)
  | .seq l r, s, hm, c, hc => by
    unfold mt at hm
    rw [List.any_eq_true] at hm
    obtain ⟨i, _, hi⟩ := hm
    rw [Bool.and_eq_true] at hi
    unfold lvR
    rw [List.mem_append]
    rcases mem_parts i hc with h' | h'
    · exact .inl (mt_mem l _ hi.1 c h')
    · exact .inr (mt_mem r _ hi.2 c h')
  | .str l, s, hm, c, hc => mtS_mem (fun s h => mt_mem l s h) _ s hm c hc

/-- The letters of a text, rising, each once. -/
def sgs (l : List UInt8) : List UInt8 := (List.range 26).filterMap fun i => if UInt8.ofNat (97 + i) ∈ l then some (UInt8.ofNat (97 + i)) else none
theorem sgs_mem {l : List UInt8} {c : UInt8} : c ∈ sgs l ↔ c ∈ l ∧ isLo c = true := by
  unfold sgs
  rw [List.mem_filterMap]
  constructor
  · rintro ⟨i, hi, h⟩
    have hi' : i < 26 := by simpa using hi
    split at h
    · rename_i hm
      injection h with h; subst h
      refine ⟨hm, ?_⟩
      unfold isLo
      have : (UInt8.ofNat (97 + i)).toNat = 97 + i := by simp; omega
      simp only [UInt8.le_iff_toNat_le, this, decide_eq_true_eq]
      constructor
      · show 97 ≤ 97 + i; omega
      · show 97 + i ≤ 122; omega
    · cases h
  · rintro ⟨h1, h2⟩
    have h3 : 97 ≤ c.toNat ∧ c.toNat ≤ 122 := by
      unfold isLo at h2
      simp only [UInt8.le_iff_toNat_le, decide_eq_true_eq] at h2
      exact h2
    have e : UInt8.ofNat (97 + (c.toNat - 97)) = c := by rw [show 97 + (c.toNat - 97) = c.toNat by omega]; simp
    exact ⟨c.toNat - 97, by simp; omega, by rw [e, if_pos h1]⟩
theorem sgs_up (l : List UInt8) : (sgs l).Pairwise (· < ·) := by
  unfold sgs
  rw [List.pairwise_filterMap]
  refine List.Pairwise.imp_of_mem ?_ (List.pairwise_lt_range (n := 26))
  intro a b ha hb hab x hx y hy
  have ha' : a < 26 := by simpa using ha
  have hb' : b < 26 := by simpa using hb
  split at hx
  · split at hy
    · injection hx with hx; injection hy with hy; subst hx hy
      rw [UInt8.lt_iff_toNat_lt]
      have h1 : (UInt8.ofNat (97 + a)).toNat = 97 + a := by simp; omega
      have h2 : (UInt8.ofNat (97 + b)).toNat = 97 + b := by simp; omega
      rw [h1, h2]; omega
    · cases hy
  · cases hx
/-- Two rising lists with the same members are one. -/
theorem up_ext : ∀ (a b : List UInt8), a.Pairwise (· < ·) → b.Pairwise (· < ·) → (∀ c, c ∈ a ↔ c ∈ b) → a = b
  | [], [], _, _, _ => rfl
  | [], d :: b, _, _, h => absurd ((h d).2 (by simp)) (by simp)
  | c :: a, [], _, _, h => absurd ((h c).1 (by simp)) (by simp)
  | c :: a, d :: b, ha, hb, h => by
    rw [List.pairwise_cons] at ha hb
    have e : c = d := by
      have h1 := (h c).1 (by simp)
      have h2 := (h d).2 (by simp)
      rw [List.mem_cons] at h1 h2
      rcases h1 with h1 | h1
      · exact h1
      · rcases h2 with h2 | h2
        · exact h2.symm
        · have := hb.1 _ h1
          have := ha.1 _ h2
          rw [UInt8.lt_iff_toNat_lt] at *
          omega
    subst e
    rw [up_ext a b ha.2 hb.2 fun x => ?_]
    constructor
    · intro hx
      have h1 := (h x).1 (by simp [hx])
      rw [List.mem_cons] at h1
      rcases h1 with rfl | h1
      · exact absurd (ha.1 _ hx) (by rw [UInt8.lt_iff_toNat_lt]; omega)
      · exact h1
    · intro hx
      have h1 := (h x).2 (by simp [hx])
      rw [List.mem_cons] at h1
      rcases h1 with rfl | h1
      · exact absurd (hb.1 _ hx) (by rw [UInt8.lt_iff_toNat_lt]; omega)
      · exact h1
/-- Neighbours that are alike struck. -/
def cpt : List UInt8 → List UInt8
  | [] => []
  | [c] => [c]
  | c :: d :: l => if c = d then cpt (d :: l) else c :: cpt (d :: l)
theorem cpt_mem : ∀ (l : List UInt8) (x : UInt8), x ∈ cpt l ↔ x ∈ l
  | [], x => Iff.rfl
  | [c], x => Iff.rfl
  | c :: d :: l, x => by
    unfold cpt
    have ih := cpt_mem (d :: l) x
    by_cases e : c = d
    · rw [if_pos e, ih]; subst e; simp
    · rw [if_neg e, List.mem_cons, ih, List.mem_cons (a := x) (b := c)]
theorem cpt_up : ∀ (l : List UInt8), l.Pairwise (· ≤ ·) → (cpt l).Pairwise (· < ·)
  | [], _ => .nil
  | [c], _ => by simp [cpt]
  | c :: d :: l, h => by
    unfold cpt
    rw [List.pairwise_cons] at h
    have ih := cpt_up (d :: l) h.2
    by_cases e : c = d
    · rw [if_pos e]; exact ih
    · rw [if_neg e, List.pairwise_cons]
      refine ⟨fun x hx => ?_, ih⟩
      rw [cpt_mem] at hx
      have h1 := h.1 d (by simp)
      have h2 : d ≤ x := by
        rw [List.mem_cons] at hx
        rcases hx with rfl | hx
        · exact UInt8.le_refl _
        · exact (List.pairwise_cons.1 h.2).1 x hx
      rw [UInt8.lt_iff_toNat_lt]
      rw [UInt8.le_iff_toNat_le] at h1 h2
      have : c.toNat ≠ d.toNat := fun h => e (UInt8.toNat_inj.1 h)
      omega
/-- Sorted, and each once: the letters, rising. -/
theorem cpt_sgs {l s : List UInt8} (hs : s.Pairwise (· ≤ ·)) (hm : ∀ c, c ∈ s ↔ c ∈ lets l) : cpt s = sgs l := by
  refine up_ext _ _ (cpt_up s hs) (sgs_up l) fun c => ?_
  rw [cpt_mem, hm, sgs_mem]
  unfold lets
  rw [List.mem_filter]
end Go.Proofs.YtchhbnnpannnhaaGreatDoor
