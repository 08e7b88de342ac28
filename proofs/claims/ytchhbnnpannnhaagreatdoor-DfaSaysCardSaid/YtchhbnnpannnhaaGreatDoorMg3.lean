/- Texts joined, each with its own conditions. (1) Glushkov's law, in plain Lean: where a pattern can begin, end and go on, and that a way from sign to sign is what fits. No condition. (2) nfa.of's join: each of the one set before each of the other one. No condition. (3) errors.As at the target *api.Errno, by its contracts (after the kit's worked text Test/ToyasAs, turned to an integer's type), and what plain.Told and the laws' Error say. Condition: the variable errors.errorType reads as the handle of the type error. (4) Patterns in memory; package re's Null and the reader's steps. No condition. -/
import Derived.Test.YtchhbnnpannnhaaGreatDoorMg2
import Derived.Test.YtchhbnnpannnhaaGreatDoorMg1
import Derived.WalkKit
import Derived.LaidEql
import Derived.Stop.Asserts
import Derived.RowKitTokens
namespace Go.Proofs.YtchhbnnpannnhaaGreatDoor
set_option linter.unusedVariables false

theorem mt_seq_iff (l r : Rt) (s : List UInt8) : mt (.seq l r) s = true ↔ ∃ u v, s = u ++ v ∧ mt l u = true ∧ mt r v = true := by
  change (List.range (s.length + 1)).any (fun i => mt l (s.take i) && mt r (s.drop i)) = true ↔ _
  rw [List.any_eq_true]
  constructor
  · rintro ⟨i, _, h⟩
    rw [Bool.and_eq_true] at h
    exact ⟨_, _, (List.take_append_drop i s).symm, h.1, h.2⟩
  · rintro ⟨u, v, rfl, h1, h2⟩
    exact ⟨u.length, List.mem_range.2 (by rw [List.length_append]; omega), by simp [h1, h2]⟩
theorem mt_str_iff (l : Rt) (s : List UInt8) : mt (.str l) s = true ↔ s = [] ∨ ∃ c u v, s = c :: u ++ v ∧ mt l (c :: u) = true ∧ mt (.str l) v = true := by
  rw [mt_str, Bool.or_eq_true, List.any_eq_true, List.isEmpty_iff]
  constructor
  · rintro (h | ⟨i, hi, h⟩)
    · exact .inl h
    · rw [Bool.and_eq_true] at h
      cases s with
      | nil => simp at hi
      | cons c s => exact .inr ⟨c, s.take i, s.drop i, by simp, h.1, h.2⟩
  · rintro (h | ⟨c, u, v, rfl, h1, h2⟩)
    · exact .inl h
    · exact .inr ⟨u.length, List.mem_range.2 (by rw [List.length_append, List.length_cons]; omega), by simp [h1, h2]⟩
def nR (t : Rt) : Nat := (lvR t).length
/-- Does nothing fit? -/
def nuR : Rt → Bool
  | .emp => true
  | .sgn _ => false
  | .alt l r => nuR l || nuR r
  | .seq l r => nuR l && nuR r
  | .str _ => true
theorem mt_nuR : ∀ t : Rt, mt t [] = nuR t
  | .emp => rfl
  | .sgn _ => rfl
  | .alt l r => by simp only [mt, nuR, mt_nuR l, mt_nuR r]
  | .seq l r => by simp [mt, nuR, mt_nuR l, mt_nuR r]
  | .str _ => rfl
/-- The document's lists: with which places a node can begin, end, and go on. -/
def fsR : Rt → Nat → List Nat
  | .emp, _ => []
  | .sgn _, a => [a]
  | .alt l r, a => fsR l a ++ fsR r (a + nR l)
  | .seq l r, a => if nuR l = true then fsR l a ++ fsR r (a + nR l) else fsR l a
  | .str l, a => fsR l a
def lsR : Rt → Nat → List Nat
  | .emp, _ => []
  | .sgn _, a => [a]
  | .alt l r, a => lsR l a ++ lsR r (a + nR l)
  | .seq l r, a => if nuR r = true then lsR l a ++ lsR r (a + nR l) else lsR r (a + nR l)
  | .str l, a => lsR l a
def crs (a b : List Nat) : List (Nat × Nat) := a.flatMap fun x => b.map fun y => (x, y)
theorem mem_crs {a b : List Nat} {i j : Nat} : (i, j) ∈ crs a b ↔ i ∈ a ∧ j ∈ b := by
  unfold crs
  rw [List.mem_flatMap]
  constructor
  · rintro ⟨x, hx, h⟩
    rw [List.mem_map] at h
    obtain ⟨y, hy, e⟩ := h
    injection e with e1 e2; subst e1 e2
    exact ⟨hx, hy⟩
  · rintro ⟨h1, h2⟩
    exact ⟨i, h1, List.mem_map.2 ⟨j, h2, rfl⟩⟩
def prR : Rt → Nat → List (Nat × Nat)
  | .emp, _ => []
  | .sgn _, _ => []
  | .alt l r, a => prR l a ++ prR r (a + nR l)
  | .seq l r, a => prR l a ++ prR r (a + nR l) ++ crs (lsR l a) (fsR r (a + nR l))
  | .str l, a => prR l a ++ crs (lsR l a) (fsR l a)
theorem nR_alt (l r : Rt) : nR (.alt l r) = nR l + nR r := by simp [nR, lvR]
theorem nR_seq (l r : Rt) : nR (.seq l r) = nR l + nR r := by simp [nR, lvR]
theorem nR_str (l : Rt) : nR (.str l) = nR l := rfl
theorem fs_in : ∀ (t : Rt) (a i : Nat), i ∈ fsR t a → a ≤ i ∧ i < a + nR t
  | .emp, a, i, h => by cases h
  | .sgn _, a, i, h => by simp [fsR] at h; simp [nR, lvR]; omega
  | .alt l r, a, i, h => by
    rw [nR_alt]
    rcases List.mem_append.1 h with h | h
    · have := fs_in l _ _ h; omega
    · have := fs_in r _ _ h; omega
  | .seq l r, a, i, h => by
    rw [nR_seq]
    unfold fsR at h
    split at h
    · rcases List.mem_append.1 h with h | h
      · have := fs_in l _ _ h; omega
      · have := fs_in r _ _ h; omega
    · have := fs_in l _ _ h; omega
  | .str l, a, i, h => fs_in l a i h
theorem ls_in : ∀ (t : Rt) (a i : Nat), i ∈ lsR t a → a ≤ i ∧ i < a + nR t
  | .emp, a, i, h => by cases h
  | .sgn _, a, i, h => by simp [lsR] at h; simp [nR, lvR]; omega
  | .alt l r, a, i, h => by
    rw [nR_alt]
    rcases List.mem_append.1 h with h | h
    · have := ls_in l _ _ h; omega
    · have := ls_in r _ _ h; omega
  | .seq l r, a, i, h => by
    rw [nR_seq]
    unfold lsR at h
    split at h
    · rcases List.mem_append.1 h with h | h
      · have := ls_in l _ _ h; omega
      · have := ls_in r _ _ h; omega
    · have := ls_in r _ _ h; omega
  | .str l, a, i, h => ls_in l a i h
theorem pr_in : ∀ (t : Rt) (a i j : Nat), (i, j) ∈ prR t a → (a ≤ i ∧ i < a + nR t) ∧ (a ≤ j ∧ j < a + nR t)
  | .emp, a, i, j, h => by cases h
  | .sgn _, a, i, j, h => by cases h
  | .alt l r, a, i, j, h => by
    rw [nR_alt]
    rcases List.mem_append.1 h with h | h
    · have := pr_in l _ _ _ h; omega
    · have := pr_in r _ _ _ h; omega
  | .seq l r, a, i, j, h => by
    rw [nR_seq]
    rcases List.mem_append.1 h with h | h
    · rcases List.mem_append.1 h with h | h
      · have := pr_in l _ _ _ h; omega
      · have := pr_in r _ _ _ h; omega
    · rw [mem_crs] at h
      have := ls_in l _ _ h.1
      have := fs_in r _ _ h.2
      omega
  | .str l, a, i, j, h => by
    rw [nR_str]
    rcases List.mem_append.1 h with h | h
    · exact pr_in l _ _ _ h
    · rw [mem_crs] at h
      exact ⟨ls_in l _ _ h.1, fs_in l _ _ h.2⟩
/-- What may follow a place. -/
def Aft : Rt → Nat → Nat → List UInt8 → Prop
  | .emp, _, _, _ => False
  | .sgn _, a, i, s => i = a ∧ s = []
  | .alt l r, a, i, s => Aft l a i s ∨ Aft r (a + nR l) i s
  | .seq l r, a, i, s => (∃ u v, s = u ++ v ∧ Aft l a i u ∧ mt r v = true) ∨ Aft r (a + nR l) i s
  | .str l, a, i, s => ∃ u v, s = u ++ v ∧ Aft l a i u ∧ mt (.str l) v = true
theorem aft_in : ∀ (t : Rt) (a i : Nat) (s : List UInt8), Aft t a i s → a ≤ i ∧ i < a + nR t
  | .emp, a, i, s, h => h.elim
  | .sgn _, a, i, s, h => by obtain ⟨h, _⟩ := h; simp [nR, lvR]; omega
  | .alt l r, a, i, s, h => by
    rw [nR_alt]
    rcases h with h | h
    · have := aft_in l _ _ _ h; omega
    · have := aft_in r _ _ _ h; omega
  | .seq l r, a, i, s, h => by
    rw [nR_seq]
    rcases h with ⟨u, v, _, h, _⟩ | h
    · have := aft_in l _ _ _ h; omega
    · have := aft_in r _ _ _ h; omega
  | .str l, a, i, s, ⟨u, v, _, h, _⟩ => aft_in l _ _ _ h
/-- The signs by their places. -/
def LabAt (lab : Nat → Option UInt8) (t : Rt) (a : Nat) : Prop := ∀ i, i < nR t → lab (a + i) = (lvR t)[i]?
theorem LabAt.altl {lab : Nat → Option UInt8} {l r : Rt} {a : Nat} (h : LabAt lab (.alt l r) a) : LabAt lab l a ∧ LabAt lab r (a + nR l) := by
  refine ⟨fun i hi => ?_, fun i hi => ?_⟩
  · rw [h i (by rw [nR_alt]; omega)]
    show (lvR l ++ lvR r)[i]? = _
    rw [List.getElem?_append_left hi]
  · rw [Nat.add_assoc, h (nR l + i) (by rw [nR_alt]; omega)]
    show (lvR l ++ lvR r)[nR l + i]? = _
    rw [List.getElem?_append_right (by unfold nR; omega)]
    congr 1; unfold nR; omega
theorem LabAt.seql {lab : Nat → Option UInt8} {l r : Rt} {a : Nat} (h : LabAt lab (.seq l r) a) : LabAt lab l a ∧ LabAt lab r (a + nR l) := LabAt.altl (l := l) (r := r) h
theorem first_law (lab : Nat → Option UInt8) : ∀ (t : Rt) (a : Nat), LabAt lab t a → ∀ (c : UInt8) (s : List UInt8), mt t (c :: s) = true ↔ ∃ i ∈ fsR t a, lab i = some c ∧ Aft t a i s
  | .emp, a, hl, c, s => by simp [mt, fsR]
  | .sgn d, a, hl, c, s => by
    have h0 := hl 0 (by simp [nR, lvR])
    simp only [lvR, Nat.add_zero, List.getElem?_cons_zero] at h0
    simp only [mt, fsR, List.mem_singleton, Aft, exists_eq_left, h0, true_and, beq_iff_eq, List.cons.injEq, Option.some.injEq]
    constructor
    · rintro ⟨rfl, h⟩; exact ⟨rfl, h⟩
    · rintro ⟨rfl, h⟩; exact ⟨rfl, h⟩
  | .alt l r, a, hl, c, s => by
    have h1 := first_law lab l a hl.altl.1 c s
    have h2 := first_law lab r (a + nR l) hl.altl.2 c s
    unfold mt
    rw [Bool.or_eq_true, h1, h2]
    constructor
    · rintro (⟨i, hi, hc, h⟩ | ⟨i, hi, hc, h⟩)
      · exact ⟨i, List.mem_append.2 (.inl hi), hc, .inl h⟩
      · exact ⟨i, List.mem_append.2 (.inr hi), hc, .inr h⟩
    · rintro ⟨i, hi, hc, h⟩
      rcases List.mem_append.1 hi with hi | hi
      · rcases h with h | h
        · exact .inl ⟨i, hi, hc, h⟩
        · have := fs_in _ _ _ hi; have := aft_in _ _ _ _ h; omega
      · rcases h with h | h
        · have := fs_in _ _ _ hi; have := aft_in _ _ _ _ h; omega
        · exact .inr ⟨i, hi, hc, h⟩
  | .seq l r, a, hl, c, s => by
    rw [mt_seq_iff]
    constructor
    · rintro ⟨u, v, e, h1, h2⟩
      cases u with
      | nil =>
        rw [List.nil_append] at e; subst e
        obtain ⟨i, hi, hc, h⟩ := (first_law lab r _ hl.seql.2 c s).1 h2
        rw [mt_nuR] at h1
        exact ⟨i, by unfold fsR; rw [if_pos h1]; exact List.mem_append.2 (.inr hi), hc, .inr h⟩
      | cons d u =>
        injection e with e1 e2; subst e1 e2
        obtain ⟨i, hi, hc, h⟩ := (first_law lab l _ hl.seql.1 c u).1 h1
        refine ⟨i, ?_, hc, .inl ⟨u, v, rfl, h, h2⟩⟩
        unfold fsR
        split
        · exact List.mem_append.2 (.inl hi)
        · exact hi
    · rintro ⟨i, hi, hc, h⟩
      have hi2 : i ∈ fsR l a ∨ (nuR l = true ∧ i ∈ fsR r (a + nR l)) := by
        unfold fsR at hi
        split at hi
        · rename_i hn
          rcases List.mem_append.1 hi with hi | hi
          · exact .inl hi
          · exact .inr ⟨hn, hi⟩
        · exact .inl hi
      rcases hi2 with hi | ⟨hn, hi⟩
      · rcases h with ⟨u, v, rfl, h, h2⟩ | h
        · exact ⟨c :: u, v, rfl, (first_law lab l _ hl.seql.1 c u).2 ⟨i, hi, hc, h⟩, h2⟩
        · have := fs_in _ _ _ hi; have := aft_in _ _ _ _ h; omega
      · rcases h with ⟨u, v, rfl, h, h2⟩ | h
        · have := fs_in _ _ _ hi; have := aft_in _ _ _ _ h; omega
        · exact ⟨[], c :: s, rfl, by rw [mt_nuR]; exact hn, (first_law lab r _ hl.seql.2 c s).2 ⟨i, hi, hc, h⟩⟩
  | .str l, a, hl, c, s => by
    rw [mt_str_iff]
    constructor
    · rintro (h | ⟨d, u, v, e, h1, h2⟩)
      · cases h
      · injection e with e1 e2; subst e1 e2
        obtain ⟨i, hi, hc, h⟩ := (first_law lab l _ hl c u).1 h1
        exact ⟨i, hi, hc, u, v, rfl, h, h2⟩
    · rintro ⟨i, hi, hc, u, v, rfl, h, h2⟩
      exact .inr ⟨c, u, v, rfl, (first_law lab l _ hl c u).2 ⟨i, hi, hc, h⟩, h2⟩
theorem last_law : ∀ (t : Rt) (a i : Nat), Aft t a i [] ↔ i ∈ lsR t a
  | .emp, a, i => by simp [Aft, lsR]
  | .sgn _, a, i => by simp [Aft, lsR]
  | .alt l r, a, i => by
    have h1 := last_law l a i
    have h2 := last_law r (a + nR l) i
    unfold Aft lsR
    rw [List.mem_append, h1, h2]
  | .seq l r, a, i => by
    have h1 := last_law l a i
    have h2 := last_law r (a + nR l) i
    have hm : i ∈ lsR (.seq l r) a ↔ (i ∈ lsR l a ∧ nuR r = true) ∨ i ∈ lsR r (a + nR l) := by
      change i ∈ (if nuR r = true then lsR l a ++ lsR r (a + nR l) else lsR r (a + nR l)) ↔ _
      split
      · rename_i hn; rw [List.mem_append, hn]; simp
      · rename_i hn; simp [hn]
    rw [hm, ← h1, ← h2]
    constructor
    · rintro (⟨u, v, e, h, h3⟩ | h)
      · obtain ⟨rfl, rfl⟩ := List.nil_eq_append_iff.1 e
        rw [mt_nuR] at h3
        exact .inl ⟨h, h3⟩
      · exact .inr h
    · rintro (⟨h, h3⟩ | h)
      · exact .inl ⟨[], [], rfl, h, by rw [mt_nuR]; exact h3⟩
      · exact .inr h
  | .str l, a, i => by
    have h1 := last_law l a i
    show _ ↔ i ∈ lsR l a
    rw [← h1]
    constructor
    · rintro ⟨u, v, e, h, h3⟩
      obtain ⟨rfl, rfl⟩ := List.nil_eq_append_iff.1 e
      exact h
    · intro h
      exact ⟨[], [], rfl, h, by rw [mt_nuR]; rfl⟩
theorem next_law (lab : Nat → Option UInt8) : ∀ (t : Rt) (a : Nat), LabAt lab t a → ∀ (i : Nat) (c : UInt8) (s : List UInt8), Aft t a i (c :: s) ↔ ∃ j, (i, j) ∈ prR t a ∧ lab j = some c ∧ Aft t a j s
  | .emp, a, hl, i, c, s => by simp [Aft]
  | .sgn d, a, hl, i, c, s => by simp [Aft, prR]
  | .alt l r, a, hl, i, c, s => by
    have h1 := next_law lab l a hl.altl.1 i c s
    have h2 := next_law lab r (a + nR l) hl.altl.2 i c s
    constructor
    · rintro (h | h)
      · obtain ⟨j, hj, hc, h⟩ := h1.1 h
        exact ⟨j, List.mem_append.2 (.inl hj), hc, .inl h⟩
      · obtain ⟨j, hj, hc, h⟩ := h2.1 h
        exact ⟨j, List.mem_append.2 (.inr hj), hc, .inr h⟩
    · rintro ⟨j, hj, hc, h⟩
      rcases List.mem_append.1 hj with hj | hj
      · rcases h with h | h
        · exact .inl (h1.2 ⟨j, hj, hc, h⟩)
        · have := pr_in _ _ _ _ hj; have := aft_in _ _ _ _ h; omega
      · rcases h with h | h
        · have := pr_in _ _ _ _ hj; have := aft_in _ _ _ _ h; omega
        · exact .inr (h2.2 ⟨j, hj, hc, h⟩)
  | .seq l r, a, hl, i, c, s => by
    constructor
    · rintro (⟨u, v, e, h, h3⟩ | h)
      · cases u with
        | nil =>
          rw [List.nil_append] at e; subst e
          rw [last_law] at h
          obtain ⟨j, hj, hc, h4⟩ := (first_law lab r _ hl.seql.2 c s).1 h3
          exact ⟨j, List.mem_append.2 (.inr (mem_crs.2 ⟨h, hj⟩)), hc, .inr h4⟩
        | cons d u =>
          injection e with e1 e2; subst e1 e2
          obtain ⟨j, hj, hc, h4⟩ := (next_law lab l _ hl.seql.1 i c u).1 h
          exact ⟨j, List.mem_append.2 (.inl (List.mem_append.2 (.inl hj))), hc, .inl ⟨u, v, rfl, h4, h3⟩⟩
      · obtain ⟨j, hj, hc, h4⟩ := (next_law lab r _ hl.seql.2 i c s).1 h
        exact ⟨j, List.mem_append.2 (.inl (List.mem_append.2 (.inr hj))), hc, .inr h4⟩
    · rintro ⟨j, hj, hc, h⟩
      rcases List.mem_append.1 hj with hj | hj
      · rcases List.mem_append.1 hj with hj | hj
        · rcases h with ⟨u, v, rfl, h, h3⟩ | h
          · exact .inl ⟨c :: u, v, rfl, (next_law lab l _ hl.seql.1 i c u).2 ⟨j, hj, hc, h⟩, h3⟩
          · have := pr_in _ _ _ _ hj; have := aft_in _ _ _ _ h; omega
        · rcases h with ⟨u, v, rfl, h, h3⟩ | h
          · have := pr_in _ _ _ _ hj; have := aft_in _ _ _ _ h; omega
          · exact .inr ((next_law lab r _ hl.seql.2 i c s).2 ⟨j, hj, hc, h⟩)
      · rw [mem_crs] at hj
        rcases h with ⟨u, v, rfl, h, h3⟩ | h
        · have := fs_in _ _ _ hj.2; have := aft_in _ _ _ _ h; omega
        · exact .inl ⟨[], c :: s, rfl, (last_law _ _ _).2 hj.1, (first_law lab r _ hl.seql.2 c s).2 ⟨j, hj.2, hc, h⟩⟩
  | .str l, a, hl, i, c, s => by
    constructor
    · rintro ⟨u, v, e, h, h3⟩
      cases u with
      | nil =>
        rw [List.nil_append] at e; subst e
        rw [last_law] at h
        rcases (mt_str_iff _ _).1 h3 with h4 | ⟨d, u, v, e, h1, h2⟩
        · cases h4
        · injection e with e1 e2; subst e1 e2
          obtain ⟨j, hj, hc, h4⟩ := (first_law lab l _ hl c u).1 h1
          exact ⟨j, List.mem_append.2 (.inr (mem_crs.2 ⟨h, hj⟩)), hc, u, v, rfl, h4, h2⟩
      | cons d u =>
        injection e with e1 e2; subst e1 e2
        obtain ⟨j, hj, hc, h4⟩ := (next_law lab l _ hl i c u).1 h
        exact ⟨j, List.mem_append.2 (.inl hj), hc, u, v, rfl, h4, h3⟩
    · rintro ⟨j, hj, hc, u, v, rfl, h, h3⟩
      rcases List.mem_append.1 hj with hj | hj
      · exact ⟨c :: u, v, rfl, (next_law lab l _ hl i c u).2 ⟨j, hj, hc, h⟩, h3⟩
      · rw [mem_crs] at hj
        refine ⟨[], c :: (u ++ v), rfl, (last_law _ _ _).2 hj.1, ?_⟩
        exact (mt_str_iff _ _).2 (.inr ⟨c, u, v, rfl, (first_law lab l _ hl c u).2 ⟨j, hj.2, hc, h⟩, h3⟩)

/-! ### The way from place to place -/
/-- From a place on, its sign the text's first one, to one with which it can end. -/
def GoN (lab : Nat → Option UInt8) (pr : Nat → Nat → Prop) (ls : Nat → Prop) : Nat → List UInt8 → Prop
  | _, [] => False
  | i, [c] => lab i = some c ∧ ls i
  | i, c :: d :: s => lab i = some c ∧ ∃ j, pr i j ∧ GoN lab pr ls j (d :: s)
theorem go_aft {lab : Nat → Option UInt8} {t : Rt} {a : Nat} (hl : LabAt lab t a) : ∀ (s : List UInt8) (i : Nat) (c : UInt8), GoN lab (fun i j => (i, j) ∈ prR t a) (fun i => i ∈ lsR t a) i (c :: s) ↔ lab i = some c ∧ Aft t a i s
  | [], i, c => by unfold GoN; rw [last_law]
  | d :: s, i, c => by
    unfold GoN
    rw [next_law lab t a hl]
    constructor
    · rintro ⟨h1, j, hj, h⟩
      obtain ⟨h2, h3⟩ := (go_aft hl s j d).1 h
      exact ⟨h1, j, hj, h2, h3⟩
    · rintro ⟨h1, j, hj, h2, h3⟩
      exact ⟨h1, j, hj, (go_aft hl s j d).2 ⟨h2, h3⟩⟩
/-- Glushkov: what fits is what there is a way for. -/
theorem glushkov {lab : Nat → Option UInt8} {t : Rt} {a : Nat} (hl : LabAt lab t a) (s : List UInt8) (hs : s ≠ []) : mt t s = true ↔ ∃ i ∈ fsR t a, GoN lab (fun i j => (i, j) ∈ prR t a) (fun i => i ∈ lsR t a) i s := by
  cases s with
  | nil => exact absurd rfl hs
  | cons c s =>
    rw [first_law lab t a hl]
    constructor
    · rintro ⟨i, hi, h⟩; exact ⟨i, hi, (go_aft hl s i c).2 h⟩
    · rintro ⟨i, hi, h⟩; exact ⟨i, hi, (go_aft hl s i c).1 h⟩
/-- All places at once. -/
def atN (lv : List UInt8) (now : Nat → Bool) (c : UInt8) (i : Nat) : Bool := now i && lv[i]? == some c
def goN (n : Nat) (pr : Nat → Nat → Bool) (A : Nat → Bool) (j : Nat) : Bool := (List.range n).any fun i => A i && pr i j
def simN (lv : List UInt8) (pr : Nat → Nat → Bool) (ls : Nat → Bool) : (Nat → Bool) → List UInt8 → Bool
  | _, [] => false
  | now, [c] => (List.range lv.length).any fun i => atN lv now c i && ls i
  | now, c :: d :: s => simN lv pr ls (goN lv.length pr (atN lv now c)) (d :: s)
theorem sim_go (lv : List UInt8) (pr : Nat → Nat → Bool) (ls : Nat → Bool) : ∀ (s : List UInt8) (now : Nat → Bool), simN lv pr ls now s = true ↔ ∃ i, now i = true ∧ GoN (fun i => lv[i]?) (fun i j => pr i j = true) (fun i => ls i = true) i s
  | [], now => by simp [simN, GoN]
  | [c], now => by
    unfold simN
    rw [List.any_eq_true]
    constructor
    · rintro ⟨i, _, h⟩
      unfold atN at h
      simp only [Bool.and_eq_true, beq_iff_eq] at h
      exact ⟨i, h.1.1, h.1.2, h.2⟩
    · rintro ⟨i, h1, h2, h3⟩
      have h2' : lv[i]? = some c := h2
      refine ⟨i, List.mem_range.2 (List.getElem?_eq_some_iff.1 h2').1, ?_⟩
      unfold atN
      simp only [Bool.and_eq_true, beq_iff_eq]
      exact ⟨⟨h1, h2'⟩, h3⟩
  | c :: d :: s, now => by
    unfold simN
    rw [sim_go lv pr ls (d :: s)]
    constructor
    · rintro ⟨j, hj, h⟩
      unfold goN at hj
      rw [List.any_eq_true] at hj
      obtain ⟨i, _, h2⟩ := hj
      unfold atN at h2
      simp only [Bool.and_eq_true, beq_iff_eq] at h2
      exact ⟨i, h2.1.1, h2.1.2, j, h2.2, h⟩
    · rintro ⟨i, h1, h2, j, hj, h⟩
      have h2' : lv[i]? = some c := h2
      refine ⟨j, ?_, h⟩
      unfold goN
      rw [List.any_eq_true]
      refine ⟨i, List.mem_range.2 (List.getElem?_eq_some_iff.1 h2').1, ?_⟩
      unfold atN
      simp only [Bool.and_eq_true, beq_iff_eq]
      exact ⟨⟨h1, h2'⟩, hj⟩

/-! ### The program's sets -/
def fsP : Pt → List Nat
  | .sgn _ k => [k]
  | .alt l r => fsP l ++ fsP r
  | .seq l r => if nul l = true then fsP l ++ fsP r else fsP l
  | .str l => fsP l
  | _ => []
def lsP : Pt → List Nat
  | .sgn _ k => [k]
  | .alt l r => lsP l ++ lsP r
  | .seq l r => if nul r = true then lsP r ++ lsP l else lsP r
  | .str l => lsP l
  | _ => []
def prP : Pt → List (Nat × Nat)
  | .alt l r => prP l ++ prP r
  | .seq l r => prP l ++ prP r ++ crs (lsP l) (fsP r)
  | .str l => prP l ++ crs (lsP l) (fsP l)
  | _ => []
theorem nuR_rel {a : Rt} {x : Pt} (h : Rel a x) : nuR a = nul x := by rw [← mt_nuR, mt_nul h]
theorem num_rel {a : Rt} {x : Pt} (h : Rel a x) {p q : Nat} (hn : Num x p q) : q = p + nR a := by
  have := hn.len
  rw [this, ← lv_rel h]; rfl
theorem sets_rel {a : Rt} {x : Pt} (h : Rel a x) : ∀ {p q : Nat}, Num x p q → (∀ i, i ∈ fsP x ↔ i ∈ fsR a p) ∧ (∀ i, i ∈ lsP x ↔ i ∈ lsR a p) ∧ (∀ i j, (i, j) ∈ prP x ↔ (i, j) ∈ prR a p) := by
  induction h with
  | emp => intro p q hn; exact ⟨fun _ => Iff.rfl, fun _ => Iff.rfl, fun _ _ => Iff.rfl⟩
  | empS => intro p q hn; exact ⟨fun _ => Iff.rfl, fun _ => Iff.rfl, fun _ _ => Iff.rfl⟩
  | sgn c k =>
    intro p q hn
    obtain ⟨rfl, _⟩ := hn
    exact ⟨fun _ => Iff.rfl, fun _ => Iff.rfl, fun _ _ => Iff.rfl⟩
  | alt h1 h2 ih1 ih2 =>
    intro p q hn
    obtain ⟨m, n1, n2⟩ := hn
    have e := num_rel h1 n1
    subst e
    obtain ⟨a1, a2, a3⟩ := ih1 n1
    obtain ⟨b1, b2, b3⟩ := ih2 n2
    refine ⟨fun i => ?_, fun i => ?_, fun i j => ?_⟩
    · unfold fsP fsR; rw [List.mem_append, List.mem_append, a1, b1]
    · unfold lsP lsR; rw [List.mem_append, List.mem_append, a2, b2]
    · unfold prP prR; rw [List.mem_append, List.mem_append, a3, b3]
  | seq h1 h2 ih1 ih2 =>
    intro p q hn
    obtain ⟨m, n1, n2⟩ := hn
    have e := num_rel h1 n1
    subst e
    obtain ⟨a1, a2, a3⟩ := ih1 n1
    obtain ⟨b1, b2, b3⟩ := ih2 n2
    refine ⟨fun i => ?_, fun i => ?_, fun i j => ?_⟩
    · unfold fsP fsR; rw [nuR_rel h1]; split
      · rw [List.mem_append, List.mem_append, a1, b1]
      · exact a1 i
    · unfold lsP lsR; rw [nuR_rel h2]; split
      · rw [List.mem_append, List.mem_append, a2, b2, Or.comm]
      · exact b2 i
    · unfold prP prR; rw [List.mem_append, List.mem_append, List.mem_append, List.mem_append, a3, b3, mem_crs, mem_crs, a2, b1]
  | str h1 ih1 =>
    intro p q hn
    obtain ⟨a1, a2, a3⟩ := ih1 (p := p) (q := q) hn
    refine ⟨fun i => a1 i, fun i => a2 i, fun i j => ?_⟩
    unfold prP prR; rw [List.mem_append, List.mem_append, a3, mem_crs, mem_crs, a1, a2]
  | strS h1 ih1 =>
    intro p q hn
    obtain ⟨a1, a2, a3⟩ := ih1 (p := p) (q := q) hn
    refine ⟨fun i => a1 i, fun i => a2 i, fun i j => ?_⟩
    have e := a3 i j
    unfold prR
    rw [List.mem_append, ← e]
    constructor
    · exact .inl
    · rintro (h | h)
      · exact h
      · rw [mem_crs, ← a1, ← a2] at h
        unfold prP
        exact List.mem_append.2 (.inr (mem_crs.2 h))
end Go.Proofs.YtchhbnnpannnhaaGreatDoor

namespace Go.Proofs.YtchhbnnpannnhaaGreatDoor
open Go.RowKit Go.Maps
set_option linter.unusedVariables false

set_option maxRecDepth 100000 in
set_option maxHeartbeats 4000000 in
theorem join_any (a b bn bx : Nat) (Lf Lt : List Nat) (Ln : List (Nat × Nat)) (w : World) (ha : SI w a Lf) (hb : SI w b Lt) (hn : SJ w bn Ln) (hx : w.cell? ⟨bx, 0, none⟩ = some (.map (some bn))) (hxl : bx < w.heap.size) (hxn : bx ≠ bn) (han : a ≠ bn) (hbn : b ≠ bn) :
    Calls Tryz.prog 63 #[.map (some a), .map (some b), .pointer (some ⟨bx, 0, none⟩)] w fun e w' => e = .returned (.tuple #[]) ∧ SJ w' bn (Ln ++ crs Lf Lt) ∧ w.grownBy w' (some bn) := by
  have hal := ha.lt
  have hbl := hb.lt
  have hnl := hn.lt
  go_enter Tryz.func63, Tryz.ntmps63
  go_wp2_with (first
    | (at_range; refine wpList_set_range rfl _ 89 rfl _ keyI Tryz.underlying89 a Lf rfl ha ?_; intro w0 cnt0 hrg0 hg0 hs0)
    | go_in)
  go_frame
  go_loopw [9] (fun _ wr => ∃ (left : Nat → Prop) (cnt : Nat) (Lo : List (Nat × Nat)), RSet Tryz.prog 3 eI okI wr a w.heap.size Lf left cnt ∧ SJ wr bn Lo ∧ (∀ p, p ∈ Lo ↔ p ∈ Ln ∨ (p.1 ∈ Lf ∧ ¬ left p.1 ∧ p.2 ∈ Lt)) ∧ w.grownBy wr (some bn))
    (fun _ wr => wr.rangeLeft a w.heap.size)
  case atStart =>
    exact ⟨_, _, Ln, hrg0, hn.kept hg0 (by simp), fun p => ⟨.inl, fun h => h.elim id fun h => absurd h.1 h.2.1⟩, hg0.but _⟩
  case round =>
    obtain ⟨left, cnt, Lo, hrg, hout, hM, hgw⟩ := hrel
    go_wp2_with (first
      | (at_next; refine wpList_set_next rfl _ rfl keyI a w.heap.size Lf left cnt rfl hrg ?_ ?_)
      | go_in)
    · intro h0
      go_wp2
      go_end0
      refine ⟨rfl, hout.congr fun p => (hM p).trans ?_, hgw⟩
      rw [List.mem_append, mem_crs]
      exact ⟨fun h => h.imp id fun h => ⟨h.1, h.2.2⟩, fun h => h.imp id fun h => ⟨h.1, h0 _ h.1, h.2⟩⟩
    · intro x w1 cnt1 hxL hl hrg1 hlt hg1 hs1 hen
      have hout1 := hout.kept hg1 (fun e => by have := Option.some.inj e; omega)
      have hgw1 := hgw.andThen hg1 (fun j hj => .inl (by cases hj; exact Nat.le_refl _))
      have hb1 := hb.kept hgw1 (fun e => hbn (Option.some.inj e))
      have hr1 := hrg1.lt
      clear hs1
      have hokx := ha.1 x hxL
      have HX := Lib.hid hx
      clear hx
      go_wp2_with (first
        | (at_range; refine wpList_set_range rfl _ 89 rfl _ keyI Tryz.underlying89 b Lt rfl hb1 ?_; intro w2 cnt2 hrg2 hg2 hs2)
        | go_in)
      go_frame
      go_loopw [15] (fun _ wr => ∃ (left2 : Nat → Prop) (cnt3 : Nat) (Lp : List (Nat × Nat)), RSet Tryz.prog 3 eI okI wr b w1.heap.size Lt left2 cnt3 ∧ SJ wr bn Lp ∧ (∀ p, p ∈ Lp ↔ p ∈ Lo ∨ (p.1 = x ∧ p.2 ∈ Lt ∧ ¬ left2 p.2)) ∧
          RSet Tryz.prog 3 eI okI wr a w.heap.size Lf (fun z => left z ∧ z ≠ x) cnt1 ∧ w.grownBy wr (some bn))
        (fun _ wr => wr.rangeLeft b w1.heap.size)
      case atStart =>
        exact ⟨_, _, Lo, hrg2, hout1.kept hg2 (by simp), fun p => ⟨.inl, fun h => h.elim id fun h => absurd h.2.1 h.2.2⟩, hrg1.kept hg2 (by simp) (by simp), hgw1.andThen (hg2.but _) (fun j hj => .inr hj)⟩
      case round =>
        obtain ⟨left2, cnt3, Lp, hrg3, hout3, hM3, hra, hgw3⟩ := hrel
        go_wp2_with (first
          | (at_next; refine wpList_set_next rfl _ rfl keyI b w1.heap.size Lt left2 cnt3 rfl hrg3 ?_ ?_)
          | go_in)
        · intro h0
          go_wp2
          go_roundw
          case rel =>
            refine ⟨_, cnt1, Lp, hra, hout3, fun p => (hM3 p).trans ?_, hgw3⟩
            rw [hM p]
            constructor
            · rintro ((h | ⟨h1, h2, h3⟩) | ⟨rfl, h2, h3⟩)
              · exact .inl h
              · exact .inr ⟨h1, fun h => h2 h.1, h3⟩
              · exact .inr ⟨hxL, fun h => h.2 rfl, h2⟩
            · rintro (h | ⟨h1, h2, h3⟩)
              · exact .inl (.inl h)
              · by_cases e : p.1 = x
                · exact .inr ⟨e, h3, h0 _ h3⟩
                · exact .inl (.inr ⟨h1, fun h => h2 ⟨h, e⟩, h3⟩)
          case measure => rw [hra.left_eq, hrg.left_eq]; exact hlt
        · intro y w4 cnt4 hyL hl4 hrg4 hlt4 hg4 hs4 hen4
          have hout4 := hout3.kept hg4 (fun e => by have := Option.some.inj e; omega)
          have hgw4 := hgw3.andThen hg4 (fun j hj => .inl (by cases hj; have := hgw1.size; omega))
          have hra4 := hra.kept hg4 (fun e => by have := Option.some.inj e; omega) (fun e => by have := Option.some.inj e; omega)
          have hokJ : okJ (x, y) := ⟨hokx, hb.1 y hyL⟩
          have hx4 : w4.cell? ⟨bx, 0, none⟩ = some (.map (some bn)) := hgw4.cell HX.out (fun e => hxn (Option.some.inj e))
          go_wp2_with (first
            | (at_mapUpdate; refine wpList_set_store rfl _ _ _ 88 rfl _ keyJ Tryz.underlying88 bn Lp rfl hout4 (x, y) hokJ rfl rfl ?_; intro w5 hout5 hg5; go_frame)
            | go_in)
          have hrg5 := hrg4.kept hg5 (fun e => hbn (Option.some.inj e)) (fun e => by have := Option.some.inj e; omega)
          have hra5 := hra4.kept hg5 (fun e => han (Option.some.inj e)) (fun e => by have := Option.some.inj e; omega)
          go_roundw
          case rel =>
            refine ⟨_, cnt4, _, hrg5, hout5, fun p => ?_, hra5, hgw4.andThen hg5 (fun j hj => .inr hj)⟩
            rw [List.mem_append, hM3 p, List.mem_singleton]
            constructor
            · rintro ((h | ⟨h1, h2, h3⟩) | rfl)
              · exact .inl h
              · exact .inr ⟨h1, h2, fun h => h3 h.1⟩
              · exact .inr ⟨rfl, hyL, fun h => h.2 rfl⟩
            · rintro (h | ⟨h1, h2, h3⟩)
              · exact .inl (.inl h)
              · by_cases e : p.2 = y
                · exact .inr (Prod.ext h1 e)
                · exact .inl (.inr ⟨h1, h2, fun h => h3 ⟨h, e⟩⟩)
          case measure => rw [hrg5.left_eq, hrg3.left_eq]; exact hlt4
end Go.Proofs.YtchhbnnpannnhaaGreatDoor

namespace Go.Proofs.YtchhbnnpannnhaaGreatDoor
open Go.RowKit Go.Extern.Stop Go.Stop Go.Extern

/-- errors.As(nil, target). -/
theorem as_nil (t : Value) (w : World) :
    Calls Tryz.prog 34 #[.nilIface, t] w fun e w' => e = .returned (.bool false) ∧ w' = w := by
  go_enter Tryz.func34, Tryz.ntmps34
  go_wp2
  go_ret
  exact ⟨rfl, rfl⟩

/-! ### CLOSED FACTS ON THE MODEL's ENTRIES FOR internal/reflectlite, at this program's types: 25: *p.E · 27: **p.E · 23: error · 45: reflectlite's rtype · 1: how many package-level variables the dump has -/
theorem asf_valueOf27 (t : Addr) (w : World) : (ReflectliteValue.unpack (.iface 72 (.pointer (some t)))).run Tryz.prog w
    = .ok (.agg #[.pointer (some ⟨2, 72, none⟩), .pointer (some ⟨w.heap.size, 0, none⟩), .int .u64 150]) (w.alloc (.cells #[.pointer (some t)] 72)) := by kernel_rfl
theorem asf_type27 (a : Addr) (w : World) : (ReflectliteValue.methodAny (ReflectliteValue.valueError "reflectlite.Value.Type" 0) (fun t _ _ _ => ReflectliteType.toType t) #[.agg #[.pointer (some ⟨2, 72, none⟩), .pointer (some a), .int .u64 150]]).run Tryz.prog w
    = .ok (.iface 128 (.agg #[.pointer (some ⟨2, 72, none⟩)])) w := by kernel_rfl
theorem asf_methodKind (h : Value) (w : World) : (Go.method 306 128 (.agg #[h]) "Kind").run Tryz.prog w = .ok (126, h) w := by kernel_rfl
theorem asf_kind27 (w : World) : ((ReflectliteType.abiMethod fun t => (fun a : Nat => Value.int IntKind.u8 (a : Int)) <$> Rtype.kind t) #[.pointer (some ⟨2, 72, none⟩)]).run Tryz.prog w = .ok (.int .u8 22) w := by kernel_rfl
theorem asf_kind25 (w : World) : ((ReflectliteType.abiMethod fun t => (fun a : Nat => Value.int IntKind.u8 (a : Int)) <$> Rtype.kind t) #[.pointer (some ⟨2, 46, none⟩)]).run Tryz.prog w = .ok (.int .u8 2) w := by kernel_rfl

/-! ### THE ENTRIES THAT READ OR WRITE MEMORY: laws with a premise on the cell (after Derived/Lib/ReflectliteSlice.lean's manner: each unfolding a lemma of its own, by rfl) -/
theorem rlm (z : Sem Value) (f : TypeId → Addr → Nat → Nat → Sem Value) (v : Value) :
    ReflectliteValue.method z f #[v] = (do match ← ReflectliteValue.parts v with | none => z | some (t, a, fl) => f t a fl (fl % 32)) := rfl
theorem asf_parts27 (a : Addr) (w : World) : (ReflectliteValue.parts (.agg #[.pointer (some ⟨2, 72, none⟩), .pointer (some a), .int .u64 150])).run Tryz.prog w = .ok (some (72, a, 150)) w := by kernel_rfl
/-- (Value).IsNil at the Value of a **p.E that is not nil. -/
theorem asf_isNil27 (a p : Addr) (W : World) (ha : W.cell? a = some (.pointer (some p))) :
    (ReflectliteValue.method (ReflectliteValue.valueError "reflectlite.Value.IsNil" 0) ReflectliteValue.isNil #[.agg #[.pointer (some ⟨2, 72, none⟩), .pointer (some a), .int .u64 150]]).run Tryz.prog W = .ok (.bool false) W := by
  rw [rlm]
  simp only [Sem.run_bind, asf_parts27, Result.andThen]
  simp [ReflectliteValue.isNil, loadVar, isAgg, underlying, Tryz.underlying72, ha, Result.andThen]

theorem asf_methodElem (h : Value) (w : World) : (Go.method 306 128 (.agg #[h]) "Elem").run Tryz.prog w = .ok (136, .agg #[h]) w := by kernel_rfl
theorem asf_methodImplements (h : Value) (w : World) : (Go.method 306 128 (.agg #[h]) "Implements").run Tryz.prog w = .ok (137, .agg #[h]) w := by kernel_rfl
theorem asf_methodAssignableTo (h : Value) (w : World) : (Go.method 306 128 (.agg #[h]) "AssignableTo").run Tryz.prog w = .ok (134, .agg #[h]) w := by kernel_rfl
theorem asf_elem27 (w : World) : (ReflectliteType.method ReflectliteType.elem #[.agg #[.pointer (some ⟨2, 72, none⟩)]]).run Tryz.prog w = .ok (.iface 128 (.agg #[.pointer (some ⟨2, 46, none⟩)])) w := by kernel_rfl
theorem asf_implements25 (w : World) : (ReflectliteType.relation "Implements" ReflectliteType.implements_ #[.agg #[.pointer (some ⟨2, 46, none⟩)], .iface 128 (.agg #[.pointer (some ⟨2, 29, none⟩)])]).run Tryz.prog w = .ok (.bool true) w := by kernel_rfl
theorem asf_typeOf25 (v : Value) (w : World) : (ReflectliteType.typeOf #[.iface 46 v]).run Tryz.prog w = .ok (.iface 128 (.agg #[.pointer (some ⟨2, 46, none⟩)])) w := by kernel_rfl
theorem asf_assignable25 (w : World) : (ReflectliteType.relation "AssignableTo" ReflectliteType.assignableTo #[.agg #[.pointer (some ⟨2, 46, none⟩)], .iface 128 (.agg #[.pointer (some ⟨2, 46, none⟩)])]).run Tryz.prog w = .ok (.bool true) w := by kernel_rfl
theorem asf_valueOf25 (e : Int) (w : World) : (ReflectliteValue.unpack (.iface 46 (.int .i64 e))).run Tryz.prog w
    = .ok (.agg #[.pointer (some ⟨2, 46, none⟩), .pointer (some ⟨w.heap.size, 0, none⟩), .int .u64 130]) (w.alloc (.cells #[.int .i64 e] 46)) := by kernel_rfl

theorem asf_elemOf27 (w : World) : (Rtype.elem? 72).run Tryz.prog w = .ok (some 46) w := by kernel_rfl
theorem asf_mk25 (p : Addr) (w : World) : (ReflectliteValue.mk 46 p ReflectliteValue.flagAddr).run Tryz.prog w = .ok (.agg #[.pointer (some ⟨2, 46, none⟩), .pointer (some p), .int .u64 386]) w := by kernel_rfl
/-- (Value).Elem at the Value of a **p.E that is not nil: the Value of the *p.E variable that it points to, addressable. -/
theorem asf_elemV27 (a p : Addr) (W : World) (ha : W.cell? a = some (.pointer (some p))) :
    (ReflectliteValue.method (ReflectliteValue.valueError "reflectlite.Value.Elem" 0) ReflectliteValue.elem #[.agg #[.pointer (some ⟨2, 72, none⟩), .pointer (some a), .int .u64 150]]).run Tryz.prog W
      = .ok (.agg #[.pointer (some ⟨2, 46, none⟩), .pointer (some p), .int .u64 386]) W := by
  rw [rlm]
  simp only [Sem.run_bind, asf_parts27, Result.andThen]
  simp [ReflectliteValue.elem, loadVar, isAgg, underlying, Tryz.underlying72, ha, Result.andThen, asf_elemOf27, asf_mk25]
theorem rls (v x : Value) : ReflectliteValue.set #[v, x] = (do
    let (some (dst, a, fl), some (src, b, _)) := (← ReflectliteValue.parts v, ← ReflectliteValue.parts x)
      | unsupported (.noEntry "extern/(internal/reflectlite.Value).Set.zeroValue")
    if fl / ReflectliteValue.flagAddr % 2 == 0 then unsupported (.noEntry "extern/(internal/reflectlite.Value).Set.unaddressable")
    let val ← loadVar src b
    if ← Rtype.directlyAssignable dst src then storeVar dst a val
    else if ← Rtype.implements dst src then
      if (← Rtype.kind src) == 20 then
        match val with
        | .nilIface => unsupported (.noEntry "extern/reflectlite: a nil value of one interface type handed on as a value of another")
        | _ => storeVar dst a val
      else storeVar dst a (.iface src val)
    else panicString ("reflectlite.Set: value of type " ++ (← Rtype.spelt src) ++ " is not assignable to type " ++ (← Rtype.spelt dst))
    pure (.tuple #[])) := rfl
theorem asf_parts25a (a : Addr) (w : World) : (ReflectliteValue.parts (.agg #[.pointer (some ⟨2, 46, none⟩), .pointer (some a), .int .u64 386])).run Tryz.prog w = .ok (some (46, a, 386)) w := by kernel_rfl
theorem asf_parts25 (a : Addr) (w : World) : (ReflectliteValue.parts (.agg #[.pointer (some ⟨2, 46, none⟩), .pointer (some a), .int .u64 130])).run Tryz.prog w = .ok (some (46, a, 130)) w := by kernel_rfl
theorem asf_direct25 (w : World) : (Rtype.directlyAssignable 46 46).run Tryz.prog w = .ok true w := by kernel_rfl
theorem asf_size25 (w : World) : (sizeOf 46).run Tryz.prog w = .ok 1 w := by kernel_rfl
/-- (Value).Set: the *p.E variable at 'ta' gets what the Value's own variable 'b' holds. -/
theorem asf_set25 (ta b : Addr) (e : Int) (old : Value) (W : World) (hb : W.cell? b = some (.int .i64 e)) (ht : W.cell? ta = some old) (hf : W.frozen? ta = false) :
    (ReflectliteValue.set #[.agg #[.pointer (some ⟨2, 46, none⟩), .pointer (some ta), .int .u64 386], .agg #[.pointer (some ⟨2, 46, none⟩), .pointer (some b), .int .u64 130]]).run Tryz.prog W
      = .ok (.tuple #[]) (W.setCell ta (.int .i64 e)) := by
  rw [rls]
  simp only [Sem.run_bind, asf_parts25a, asf_parts25, Result.andThen]
  simp [ReflectliteValue.flagAddr, loadVar, isAgg, underlying, Tryz.underlying46, hb, Result.andThen, asf_direct25, storeVar, Value.cells, storeCells, Addr.add]
  rw [run_store Tryz.prog W ta _ _ (by rfl)]
  simp [ht, hf]

set_option maxHeartbeats 4000000 in
theorem as_hit (e : Int) (t : Addr) (old : Value) (w : World) (hg : w.cell? ⟨0, 0, none⟩ = some (.iface 128 (.agg #[.pointer (some ⟨2, 29, none⟩)]))) (ht0 : w.cell? t = some old) (hf0 : w.frozen? t = false) :
    Calls Tryz.prog 34 #[.iface 46 (.int .i64 e), .iface 72 (.pointer (some t))] w fun ev w' => ev = .returned (.bool true) ∧ w' = ((((w.alloc (.cells #[.pointer (some t)] 72)).alloc (.cells #[.pointer (some ⟨2, 72, none⟩), .pointer (some ⟨w.heap.size, 0, none⟩), .int .u64 150] 101)).alloc (.cells #[.pointer (some ⟨2, 72, none⟩), .pointer (some ⟨w.heap.size, 0, none⟩), .int .u64 150] 101)).alloc (.cells #[.int .i64 e] 46)).setCell t (.int .i64 e) := by
  have h6 := @run_callFunc_extern Tryz.prog 52 _ (fun args => ReflectliteValue.unpack (args.getD 0 (.tuple #[]))) Tryz.func52 (by kernel_rfl) (by kernel_rfl) (by kernel_rfl) (by kernel_rfl)
  have h7 := @run_callFunc_extern Tryz.prog 53 _ (ReflectliteValue.methodAny (ReflectliteValue.valueError "reflectlite.Value.Type" 0) (fun t _ _ _ => ReflectliteType.toType t)) Tryz.func53 (by kernel_rfl) (by kernel_rfl) (by kernel_rfl) (by kernel_rfl)
  have h8 := @run_callFunc_extern Tryz.prog 54 _ (ReflectliteValue.method (ReflectliteValue.valueError "reflectlite.Value.IsNil" 0) ReflectliteValue.isNil) Tryz.func54 (by kernel_rfl) (by kernel_rfl) (by kernel_rfl) (by kernel_rfl)
  have h27 := @run_callFunc_extern Tryz.prog 126 _ (ReflectliteType.abiMethod fun t => do pure (.int .u8 (← Rtype.kind t))) Tryz.func126 (by kernel_rfl) (by kernel_rfl) (by kernel_rfl) (by kernel_rfl)
  have h37 := @run_callFunc_extern Tryz.prog 136 _ (ReflectliteType.method ReflectliteType.elem) Tryz.func136 (by kernel_rfl) (by kernel_rfl) (by kernel_rfl) (by kernel_rfl)
  have h38 := @run_callFunc_extern Tryz.prog 137 _ (ReflectliteType.relation "Implements" ReflectliteType.implements_) Tryz.func137 (by kernel_rfl) (by kernel_rfl) (by kernel_rfl) (by kernel_rfl)
  have h10 := @run_callFunc_extern Tryz.prog 69 _ ReflectliteType.typeOf Tryz.func69 (by kernel_rfl) (by kernel_rfl) (by kernel_rfl) (by kernel_rfl)
  have h35 := @run_callFunc_extern Tryz.prog 134 _ (ReflectliteType.relation "AssignableTo" ReflectliteType.assignableTo) Tryz.func134 (by kernel_rfl) (by kernel_rfl) (by kernel_rfl) (by kernel_rfl)
  have h11 := @run_callFunc_extern Tryz.prog 70 _ (ReflectliteValue.method (ReflectliteValue.valueError "reflectlite.Value.Elem" 0) ReflectliteValue.elem) Tryz.func70 (by kernel_rfl) (by kernel_rfl) (by kernel_rfl) (by kernel_rfl)
  have h12 := @run_callFunc_extern Tryz.prog 71 _ ReflectliteValue.set Tryz.func71 (by kernel_rfl) (by kernel_rfl) (by kernel_rfl) (by kernel_rfl)
  have tO := asf_typeOf25
  have mA := asf_methodAssignableTo
  have a25 := asf_assignable25
  have v25 := asf_valueOf25
  have f6 := asf_valueOf27
  have f7 := asf_type27
  have mK := asf_methodKind
  have mE := asf_methodElem
  have mI := asf_methodImplements
  have k27 := asf_kind27
  have k25 := asf_kind25
  have e27 := asf_elem27
  have i25 := asf_implements25
  have n8 := asf_isNil27 ⟨w.heap.size, 0, none⟩ t ((w.alloc (.cells #[.pointer (some t)] 72)).alloc (.cells #[.pointer (some ⟨2, 72, none⟩), .pointer (some ⟨w.heap.size, 0, none⟩), .int .u64 150] 101)) (by simp)
  have hlt : 0 < w.heap.size := World.block_lt_of_cell? w _ hg
  have hg2 : ((w.alloc (.cells #[.pointer (some t)] 72)).alloc (.cells #[.pointer (some ⟨2, 72, none⟩), .pointer (some ⟨w.heap.size, 0, none⟩), .int .u64 150] 101)).cell? ⟨0, 0, none⟩ = some (.iface 128 (.agg #[.pointer (some ⟨2, 29, none⟩)])) := by
    rw [World.cell?_alloc_lt _ _ ⟨0, 0, none⟩ (by simp <;> omega), World.cell?_alloc_lt _ _ ⟨0, 0, none⟩ hlt]; exact hg
  have htl : t.block < w.heap.size := by
    rcases Nat.lt_or_ge t.block w.heap.size with h | h
    · exact h
    · simp [World.cell?, Array.getElem?_eq_none h] at ht0
  have el := asf_elemV27 ⟨w.heap.size, 0, none⟩ t (((w.alloc (.cells #[.pointer (some t)] 72)).alloc (.cells #[.pointer (some ⟨2, 72, none⟩), .pointer (some ⟨w.heap.size, 0, none⟩), .int .u64 150] 101)).alloc (.cells #[.pointer (some ⟨2, 72, none⟩), .pointer (some ⟨w.heap.size, 0, none⟩), .int .u64 150] 101)) (by rw [World.cell?_alloc_lt _ _ ⟨w.heap.size, 0, none⟩ (by simp; omega)]; simp)
  have st := asf_set25 t ⟨w.heap.size + 1 + 1 + 1, 0, none⟩ e old ((((w.alloc (.cells #[.pointer (some t)] 72)).alloc (.cells #[.pointer (some ⟨2, 72, none⟩), .pointer (some ⟨w.heap.size, 0, none⟩), .int .u64 150] 101)).alloc (.cells #[.pointer (some ⟨2, 72, none⟩), .pointer (some ⟨w.heap.size, 0, none⟩), .int .u64 150] 101)).alloc (.cells #[.int .i64 e] 46))
    (by rw [World.cell?_alloc_at _ _ _ _ (by simp)]; rfl)
    (by rw [World.cell?_alloc_lt _ _ t (by simp; omega), World.cell?_alloc_lt _ _ t (by simp; omega), World.cell?_alloc_lt _ _ t (by simp; omega), World.cell?_alloc_lt _ _ t htl]; exact ht0)
    (by rw [World.frozen?_alloc_old _ _ t (by simp; omega), World.frozen?_alloc_old _ _ t (by simp; omega), World.frozen?_alloc_old _ _ t (by simp; omega), World.frozen?_alloc_old _ _ t (Nat.ne_of_lt htl)]; exact hf0)
  go_enter Tryz.func34, Tryz.ntmps34
  go_wp2
  refine wp_loop_rounds 1 ?_
  rw [rounds_succ]
  go_wp2
  go_ret
  exact ⟨rfl, rfl⟩


/-- What the row's condition gives: the cell of errors.errorType. -/
def HG (w : World) : Prop := w.cell? ⟨0, 0, none⟩ = some (.iface 128 (.agg #[.pointer (some ⟨2, 29, none⟩)]))
theorem HG.lt {w : World} (h : HG w) : 0 < w.heap.size := World.block_lt_of_cell? w _ h
theorem HG.below {w w' : World} {B : Nat} (h : HG w) (hb : Below B w w') (hB : w.heap.size ≤ B) : HG w' :=
  (hb.cell (p := ⟨0, 0, none⟩) (Nat.lt_of_lt_of_le h.lt hB)).trans h

theorem told_nil (w : World) : Calls Tryz.prog 14 #[.nilIface] w fun e w' => e = .returned (.int .i64 0) ∧ w = w' := by
  go_enter Tryz.func14, Tryz.ntmps14
  go_wp2
  go_ret
  exact ⟨rfl, rfl⟩
set_option maxHeartbeats 4000000 in
theorem told_err (k : Int) (w : World) (hg : HG w) : Calls Tryz.prog 14 #[.iface 46 (.int .i64 k)] w fun e w' => e = .returned (.int .i64 k) ∧ Below w.heap.size w w' := by
  have hg' : HG (w.alloc (.cells #[.int .i64 0] 46)) := hg.below ((Below.refl w.heap.size w).alloc (Nat.le_refl _) _) (Nat.le_refl _)
  have HGH := Lib.hid hg'
  clear hg hg'
  go_enter Tryz.func14, Tryz.ntmps14
  go_wp2_with fail
  refine (as_hit k ⟨w.heap.size, 0, none⟩ (.int .i64 0) _ HGH.out (by simp) (by simp)).mono ?_
  rintro e w' ⟨rfl, hw⟩
  have hc : w'.cell? ⟨w.heap.size, 0, none⟩ = some (.int .i64 k) := by
    rw [hw]
    refine World.cell?_setCell_same' _ _ _ ?_
    have hb4 : ∀ a b c d : Obj, Below (w.heap.size + 1) (w.alloc (.cells #[.int .i64 0] 46)) (((((w.alloc (.cells #[.int .i64 0] 46)).alloc a).alloc b).alloc c).alloc d) := fun a b c d =>
      ((((Below.refl _ _).alloc (by simp) _).alloc (by simp) _).alloc (by simp) _).alloc (by simp) _
    rw [(hb4 _ _ _ _).cell (p := ⟨w.heap.size, 0, none⟩) (by simp)]
    simp
  have hb : Below w.heap.size w w' := by
    rw [hw]
    exact ((((((Below.refl _ w).alloc (Nat.le_refl _) _).alloc (by simp) _).alloc (by simp; omega) _).alloc (by simp; omega) _).alloc (by simp; omega) _).setCell (p := ⟨w.heap.size, 0, none⟩) (Nat.le_refl _) _
  clear hw
  go_wp2_with fail
  go_ret
  exact ⟨rfl, hb⟩
/-- The value of an error by its number. -/
def errV (k : Int) : Value := if k = 0 then .nilIface else .iface 46 (.int .i64 k)
theorem err_ne {k : Int} (h : k ≠ 0) : errV k = .iface 46 (.int .i64 k) := by unfold errV; rw [if_neg h]
theorem error_any (k e : Int) (w : World) (hg : HG w) :
    Calls Tryz.prog 5 #[errV k, .int .i64 e] w fun r w' => r = .returned (.bool (k == e)) ∧ Below w.heap.size w w' := by
  by_cases hk : k = 0
  · subst hk
    rw [show errV 0 = .nilIface from rfl]
    go_enter Tryz.func5, Tryz.ntmps5
    go_wp2_with fail
    refine (told_nil _).mono ?_
    rintro r w' ⟨rfl, rfl⟩
    go_wp2_with fail
    go_ret
    exact ⟨rfl, Below.refl _ _⟩
  · rw [err_ne hk]
    clear hk
    have HGH := Lib.hid hg
    clear hg
    go_enter Tryz.func5, Tryz.ntmps5
    go_wp2_with fail
    refine (told_err k _ HGH.out).mono ?_
    rintro r w' ⟨rfl, hb⟩
    go_wp2_with fail
    go_ret
    exact ⟨rfl, hb⟩
end Go.Proofs.YtchhbnnpannnhaaGreatDoor

namespace Go.Proofs.YtchhbnnpannnhaaGreatDoor
open Go.RowKit IntWalk
attribute [local go_sem] byte_at str_app

abbrev S (l : List UInt8) : Value := .string ⟨l.toArray⟩
theorem str_from (a : List UInt8) (k : Nat) : (ByteArray.mk a.toArray).extract k a.length = ByteArray.mk (a.drop k).toArray := by
  apply ByteArray.ext; simp [List.take_of_length_le]
theorem str_to (a : List UInt8) (k : Nat) : (ByteArray.mk a.toArray).extract 0 k = ByteArray.mk (a.take k).toArray := by
  apply ByteArray.ext; simp
set_option maxHeartbeats 400000 in
theorem long1_yes (m : Int) (l : List UInt8) (w : World) (b off : Nat) (hA : w.cell? ⟨b, off, none⟩ = some (S l)) (h : m < (l.length : Int)) :
    Calls Tryz.prog 16 #[.int .i64 m, .slice (some ⟨b, off, none⟩) 1 1] w fun e w' => e = .returned (.iface 46 (.int .i64 4)) ∧ w = w' := by
  go_enter Tryz.func16, Tryz.ntmps16
  go_wp2_with fail
  refine wp_loop_rounds 2 ?_
  rw [rounds_succ]
  go_wp2_with fail
  go_ret
  exact ⟨rfl, rfl⟩
set_option maxHeartbeats 400000 in
theorem long1_no (m : Int) (l : List UInt8) (w : World) (b off : Nat) (hA : w.cell? ⟨b, off, none⟩ = some (S l)) (h : (l.length : Int) ≤ m) :
    Calls Tryz.prog 16 #[.int .i64 m, .slice (some ⟨b, off, none⟩) 1 1] w fun e w' => e = .returned .nilIface ∧ w = w' := by
  go_enter Tryz.func16, Tryz.ntmps16
  go_wp2_with fail
  refine wp_loop_rounds 2 ?_
  rw [rounds_succ]
  go_wp2_with fail
  rw [rounds_succ]
  go_wp2_with fail
  go_ret
  exact ⟨rfl, rfl⟩

/-- A node, and the reader. -/
abbrev nObj (k : Int) (c : UInt8) (a : Int) (l r : Option Addr) : Obj := .cells #[.int .i64 k, .int .u8 (c.toNat : Int), .int .i64 a, .pointer l, .pointer r] 119
abbrev rObj (s : List UInt8) (k : Nat) : Obj := .cells #[S s, .int .i64 (k : Int)] 113
abbrev bl (g : Nat) : Option Addr := some ⟨g, 0, none⟩
/-- Block g is the root of a pattern's tree. -/
def Nd (w : World) : Pt → Nat → Prop
  | .non, g => w.heap[g]? = some (nObj 0 0 0 none none)
  | .emp, g => w.heap[g]? = some (nObj 1 0 0 none none)
  | .sgn c k, g => w.heap[g]? = some (nObj 2 c (k : Int) none none)
  | .alt l r, g => ∃ a b, w.heap[g]? = some (nObj 3 0 0 (bl a) (bl b)) ∧ Nd w l a ∧ Nd w r b
  | .seq l r, g => ∃ a b, w.heap[g]? = some (nObj 4 0 0 (bl a) (bl b)) ∧ Nd w l a ∧ Nd w r b
  | .str l, g => ∃ a, w.heap[g]? = some (nObj 5 0 0 (bl a) none) ∧ Nd w l a
def kd : Pt → Int
  | .non => 0
  | .emp => 1
  | .sgn _ _ => 2
  | .alt _ _ => 3
  | .seq _ _ => 4
  | .str _ => 5
theorem Nd.head {w : World} {t : Pt} {g : Nat} (h : Nd w t g) : ∃ c a l r, w.heap[g]? = some (nObj (kd t) c a l r) := by
  cases t with
  | non => exact ⟨_, _, _, _, h⟩
  | emp => exact ⟨_, _, _, _, h⟩
  | sgn c k => exact ⟨_, _, _, _, h⟩
  | alt l r => obtain ⟨a, b, h, _⟩ := h; exact ⟨_, _, _, _, h⟩
  | seq l r => obtain ⟨a, b, h, _⟩ := h; exact ⟨_, _, _, _, h⟩
  | str l => obtain ⟨a, h, _⟩ := h; exact ⟨_, _, _, _, h⟩
theorem Nd.lt {w : World} {t : Pt} {g : Nat} (h : Nd w t g) : g < w.heap.size := by
  obtain ⟨_, _, _, _, h⟩ := h.head
  exact (Array.getElem?_eq_some_iff.1 h).1
theorem Nd.kind {w : World} {t : Pt} {g : Nat} (h : Nd w t g) : w.cell? ⟨g, 0, none⟩ = some (.int .i64 (kd t)) := by
  obtain ⟨_, _, _, _, h⟩ := h.head
  rw [cell_of_row w g 0 _ _ (0, 0) h]; rfl
theorem Nd.keep {w w' : World} : ∀ {t : Pt} {g : Nat}, Nd w t g → (∀ (k : Int) (c : UInt8) (a : Int) (l r : Option Addr) (g : Nat), w.heap[g]? = some (nObj k c a l r) → w'.heap[g]? = w.heap[g]?) → Nd w' t g
  | .non, g, h, hk => (hk _ _ _ _ _ _ h).trans h
  | .emp, g, h, hk => (hk _ _ _ _ _ _ h).trans h
  | .sgn _ _, g, h, hk => (hk _ _ _ _ _ _ h).trans h
  | .alt l r, g, h, hk => by
    obtain ⟨a, b, h, h1, h2⟩ := h
    exact ⟨a, b, (hk _ _ _ _ _ _ h).trans h, Nd.keep h1 hk, Nd.keep h2 hk⟩
  | .seq l r, g, h, hk => by
    obtain ⟨a, b, h, h1, h2⟩ := h
    exact ⟨a, b, (hk _ _ _ _ _ _ h).trans h, Nd.keep h1 hk, Nd.keep h2 hk⟩
  | .str l, g, h, hk => by
    obtain ⟨a, h, h1⟩ := h
    exact ⟨a, (hk _ _ _ _ _ _ h).trans h, Nd.keep h1 hk⟩
theorem Nd.below {w w' : World} {t : Pt} {g : Nat} (h : Nd w t g) (hb : Below w.heap.size w w') : Nd w' t g :=
  h.keep fun _ _ _ _ _ _ e => hb.block _ (Array.getElem?_eq_some_iff.1 e).1
/-- All but block r is as it was. -/
structure Fr1 (r : Nat) (w w' : World) : Prop where
  os : w'.os = w.os
  tape : w'.tape = w.tape
  output : w'.output = w.output
  size : w.heap.size ≤ w'.heap.size
  block : ∀ b, b < w.heap.size → b ≠ r → w'.heap[b]? = w.heap[b]?
theorem Fr1.refl (r : Nat) (w : World) : Fr1 r w w := ⟨rfl, rfl, rfl, Nat.le_refl _, fun _ _ _ => rfl⟩
theorem Fr1.trans {r : Nat} {a b c : World} (h : Fr1 r a b) (k : Fr1 r b c) : Fr1 r a c :=
  ⟨k.os.trans h.os, k.tape.trans h.tape, k.output.trans h.output, Nat.le_trans h.size k.size, fun i hi hr => (k.block i (Nat.lt_of_lt_of_le hi h.size) hr).trans (h.block i hi hr)⟩
theorem Fr1.of {r : Nat} {a b : World} (h : Below a.heap.size a b) : Fr1 r a b := ⟨h.os, h.tape, h.output, h.size, fun k hk _ => h.block k hk⟩
theorem Fr1.alloc {r : Nat} {a b : World} (h : Fr1 r a b) (o : Obj) : Fr1 r a (b.alloc o) := h.trans (.of ((Below.refl _ b).alloc (Nat.le_refl _) o))
theorem Fr1.set {r : Nat} {a b : World} (h : Fr1 r a b) (i : Nat) (v : Value) : Fr1 r a (b.setCell ⟨r, i, none⟩ v) :=
  h.trans ⟨rfl, rfl, rfl, by simp [World.setCell], fun k _ hk => Below.heap_setCell _ _ _ _ hk⟩
theorem Fr1.below {r B : Nat} {a b : World} (h : Fr1 r a b) (hr : B ≤ r) (hB : B ≤ a.heap.size) : Below B a b :=
  ⟨h.os, h.tape, h.output, h.size, fun k hk => h.block k (by omega) (by omega)⟩
theorem Nd.fr {w w' : World} {t : Pt} {g r k : Nat} {s : List UInt8} (h : Nd w t g) (hr : w.heap[r]? = some (rObj s k)) (hf : Fr1 r w w') : Nd w' t g :=
  h.keep fun _ _ _ _ _ x e => hf.block _ (Array.getElem?_eq_some_iff.1 e).1 (fun ex => by
    subst ex
    rw [hr] at e
    injection e with e
    injection e with e _ _
    have := congrArg Array.size e
    simp at this)
/-- What the reader's block holds. -/
theorem rd_cells {w : World} {r k : Nat} {s : List UInt8} (h : w.heap[r]? = some (rObj s k)) : w.cell? ⟨r, 0, none⟩ = some (S s) ∧ w.cell? ⟨r, 1, none⟩ = some (.int .i64 (k : Int)) ∧ w.frozen? ⟨r, 0, none⟩ = false ∧ w.frozen? ⟨r, 1, none⟩ = false :=
  ⟨by rw [cell_of_row w r 0 _ _ (0, 0) h]; rfl, by rw [cell_of_row w r 1 _ _ (0, 0) h]; rfl, Lib.frozen_of_heap h 0, Lib.frozen_of_heap h 1⟩
theorem rd_s {w : World} {r k : Nat} {s : List UInt8} (h : w.heap[r]? = some (rObj s k)) (s' : List UInt8) : (w.setCell ⟨r, 0, none⟩ (S s')).heap[r]? = some (rObj s' k) := by
  simp [World.setCell, Array.getElem?_modify, h]
theorem rd_k {w : World} {r k : Nat} {s : List UInt8} (h : w.heap[r]? = some (rObj s k)) (k' : Nat) : (w.setCell ⟨r, 1, none⟩ (.int .i64 (k' : Int))).heap[r]? = some (rObj s k') := by
  simp [World.setCell, Array.getElem?_modify, h]
theorem rd_alloc {w : World} {r k : Nat} {s : List UInt8} (h : w.heap[r]? = some (rObj s k)) (o : Obj) : (w.alloc o).heap[r]? = some (rObj s k) :=
  (Lib.alloc_old w o r (Array.getElem?_eq_some_iff.1 h).1).trans h
set_option maxRecDepth 100000 in
set_option maxHeartbeats 1000000 in
theorem null_any : ∀ (t : Pt) (g : Nat) (w : World), Nd w t g → Calls Tryz.prog 50 #[.pointer (bl g)] w fun e w' => e = .returned (.bool (nul t)) ∧ w = w'
  | .non, g, w, h => by
    have k0 := h.kind
    change w.cell? ⟨g, 0, none⟩ = some (.int .i64 0) at k0
    go_enter Tryz.func50, Tryz.ntmps50
    go_wp2_with fail
    go_ret
    exact ⟨rfl, rfl⟩
  | .emp, g, w, h => by
    have k0 := h.kind
    change w.cell? ⟨g, 0, none⟩ = some (.int .i64 1) at k0
    go_enter Tryz.func50, Tryz.ntmps50
    go_wp2_with fail
    go_ret
    exact ⟨rfl, rfl⟩
  | .sgn c k, g, w, h => by
    have k0 := h.kind
    change w.cell? ⟨g, 0, none⟩ = some (.int .i64 2) at k0
    go_enter Tryz.func50, Tryz.ntmps50
    go_wp2_with fail
    go_ret
    exact ⟨rfl, rfl⟩
  | .str l, g, w, h => by
    have k0 := h.kind
    change w.cell? ⟨g, 0, none⟩ = some (.int .i64 5) at k0
    go_enter Tryz.func50, Tryz.ntmps50
    go_wp2_with fail
    go_ret
    exact ⟨rfl, rfl⟩
  | .alt l r, g, w, h => by
    have k0 := h.kind
    change w.cell? ⟨g, 0, none⟩ = some (.int .i64 3) at k0
    obtain ⟨a, b, h0, h1, h2⟩ := h
    have k3 : w.cell? ⟨g, 3, none⟩ = some (.pointer (some ⟨a, 0, none⟩)) := by rw [cell_of_row w g 3 _ _ (0, 0) h0]; rfl
    have k4 : w.cell? ⟨g, 4, none⟩ = some (.pointer (some ⟨b, 0, none⟩)) := by rw [cell_of_row w g 4 _ _ (0, 0) h0]; rfl
    have HL := Lib.hid (null_any l a w h1)
    have HR := Lib.hid (null_any r b w h2)
    have HN : Hid (nul (.alt l r) = (nul l || nul r)) := Lib.hid rfl
    generalize nul (.alt l r) = n at *
    generalize nul l = n1 at *
    generalize nul r = n2 at *
    clear h0 h1 h2
    go_enter Tryz.func50, Tryz.ntmps50
    cases n1
    · go_wp2_with fail
      refine HL.out.mono ?_
      rintro e w' ⟨rfl, rfl⟩
      go_wp2_with fail
      refine HR.out.mono ?_
      rintro e w' ⟨rfl, rfl⟩
      go_wp2_with fail
      go_ret
      exact ⟨by rw [HN.out]; rfl, rfl⟩
    · go_wp2_with fail
      refine HL.out.mono ?_
      rintro e w' ⟨rfl, rfl⟩
      go_wp2_with fail
      go_ret
      exact ⟨by rw [HN.out]; rfl, rfl⟩
  | .seq l r, g, w, h => by
    have k0 := h.kind
    change w.cell? ⟨g, 0, none⟩ = some (.int .i64 4) at k0
    obtain ⟨a, b, h0, h1, h2⟩ := h
    have k3 : w.cell? ⟨g, 3, none⟩ = some (.pointer (some ⟨a, 0, none⟩)) := by rw [cell_of_row w g 3 _ _ (0, 0) h0]; rfl
    have k4 : w.cell? ⟨g, 4, none⟩ = some (.pointer (some ⟨b, 0, none⟩)) := by rw [cell_of_row w g 4 _ _ (0, 0) h0]; rfl
    have HL := Lib.hid (null_any l a w h1)
    have HR := Lib.hid (null_any r b w h2)
    have HN : Hid (nul (.seq l r) = (nul l && nul r)) := Lib.hid rfl
    generalize nul (.seq l r) = n at *
    generalize nul l = n1 at *
    generalize nul r = n2 at *
    clear h0 h1 h2
    go_enter Tryz.func50, Tryz.ntmps50
    cases n1
    · go_wp2_with fail
      refine HL.out.mono ?_
      rintro e w' ⟨rfl, rfl⟩
      go_wp2_with fail
      go_ret
      exact ⟨by rw [HN.out]; rfl, rfl⟩
    · go_wp2_with fail
      refine HL.out.mono ?_
      rintro e w' ⟨rfl, rfl⟩
      go_wp2_with fail
      refine HR.out.mono ?_
      rintro e w' ⟨rfl, rfl⟩
      go_wp2_with fail
      go_ret
      exact ⟨by rw [HN.out]; rfl, rfl⟩
end Go.Proofs.YtchhbnnpannnhaaGreatDoor
