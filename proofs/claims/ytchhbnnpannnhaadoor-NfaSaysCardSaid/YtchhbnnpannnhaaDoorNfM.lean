/- Glushkov's law, in plain Lean: where a pattern can begin, end and go on, and that a way from sign to sign is what fits. No condition. -/
import Derived.Test.YtchhbnnpannnhaaDoorRegS
namespace Go.Proofs.YtchhbnnpannnhaaDoor
set_option linter.unusedVariables false

theorem mt_seq_iff (l r : Rt) (s : List UInt8) : mt (.seq l r) s = true ↔ ∃ u v, s = u ++ v ∧ mt l u = true ∧ mt r v = true := by
  change (List.range (s.length + 1)).any (fun i => mt l (s.take i) && mt r (s.drop i)) = true ↔ _
  rw [List.any_eq_true]
  constructor
  · rintro ⟨i, _, h⟩
    rw [Bool.and_eq_true] at h
    exact ⟨_, _, (List.take_append_drop i s).symm, h.1, h.2⟩
  · rintro ⟨u, v, rfl, h1, h2⟩
    exact ⟨u.length, List.mem_range.2 (by rw [List.length_append]; omega), by simp [h1, h2]⟩
theorem mt_str_iff (l : Rt) (s : List UInt8) : mt (.str l) s = true ↔ s = [] ∨ ∃ c u v, s = c :: u ++ v ∧ mt l (c :: u) = true ∧ mt (.str l) v = true := by
  rw [mt_str, Bool.or_eq_true, List.any_eq_true, List.isEmpty_iff]
  constructor
  · rintro (h | ⟨i, hi, h⟩)
    · exact .inl h
    · rw [Bool.and_eq_true] at h
      cases s with
      | nil => simp at hi
      | cons c s => exact .inr ⟨c, s.take i, s.drop i, by simp, h.1, h.2⟩
  · rintro (h | ⟨c, u, v, rfl, h1, h2⟩)
    · exact .inl h
    · exact .inr ⟨u.length, List.mem_range.2 (by rw [List.length_append, List.length_cons]; omega), by simp [h1, h2]⟩
def nR (t : Rt) : Nat := (lvR t).length
/-- Does nothing fit? -/
def nuR : Rt → Bool
  | .emp => true
  | .sgn _ => false
  | .alt l r => nuR l || nuR r
  | .seq l r => nuR l && nuR r
  | .str _ => true
theorem mt_nuR : ∀ t : Rt, mt t [] = nuR t
  | .emp => rfl
  | .sgn _ => rfl
  | .alt l r => by simp only [mt, nuR, mt_nuR l, mt_nuR r]
  | .seq l r => by simp [mt, nuR, mt_nuR l, mt_nuR r]
  | .str _ => rfl
/-- The document's lists: with which places a node can begin, end, and go on. -/
def fsR : Rt → Nat → List Nat
  | .emp, _ => []
  | .sgn _, a => [a]
  | .alt l r, a => fsR l a ++ fsR r (a + nR l)
  | .seq l r, a => if nuR l = true then fsR l a ++ fsR r (a + nR l) else fsR l a
  | .str l, a => fsR l a
def lsR : Rt → Nat → List Nat
  | .emp, _ => []
  | .sgn _, a => [a]
  | .alt l r, a => lsR l a ++ lsR r (a + nR l)
  | .seq l r, a => if nuR r = true then lsR l a ++ lsR r (a + nR l) else lsR r (a + nR l)
  | .str l, a => lsR l a
def crs (a b : List Nat) : List (Nat × Nat) := a.flatMap fun x => b.map fun y => (x, y)
theorem mem_crs {a b : List Nat} {i j : Nat} : (i, j) ∈ crs a b ↔ i ∈ a ∧ j ∈ b := by
  unfold crs
  rw [List.mem_flatMap]
  constructor
  · rintro ⟨x, hx, h⟩
    rw [List.mem_map] at h
    obtain ⟨y, hy, e⟩ := h
    injection e with e1 e2; subst e1 e2
    exact ⟨hx, hy⟩
  · rintro ⟨h1, h2⟩
    exact ⟨i, h1, List.mem_map.2 ⟨j, h2, rfl⟩⟩
def prR : Rt → Nat → List (Nat × Nat)
  | .emp, _ => []
  | .sgn _, _ => []
  | .alt l r, a => prR l a ++ prR r (a + nR l)
  | .seq l r, a => prR l a ++ prR r (a + nR l) ++ crs (lsR l a) (fsR r (a + nR l))
  | .str l, a => prR l a ++ crs (lsR l a) (fsR l a)
theorem nR_alt (l r : Rt) : nR (.alt l r) = nR l + nR r := by simp [nR, lvR]
theorem nR_seq (l r : Rt) : nR (.seq l r) = nR l + nR r := by simp [nR, lvR]
theorem nR_str (l : Rt) : nR (.str l) = nR l := rfl
theorem fs_in : ∀ (t : Rt) (a i : Nat), i ∈ fsR t a → a ≤ i ∧ i < a + nR t
  | .emp, a, i, h => by cases h
  | .sgn _, a, i, h => by simp [fsR] at h; simp [nR, lvR]; omega
  | .alt l r, a, i, h => by
    rw [nR_alt]
    rcases List.mem_append.1 h with h | h
    · have := fs_in l _ _ h; omega
    · have := fs_in r _ _ h; omega
  | .seq l r, a, i, h => by
    rw [nR_seq]
    unfold fsR at h
    split at h
    · rcases List.mem_append.1 h with h | h
      · have := fs_in l _ _ h; omega
      · have := fs_in r _ _ h; omega
    · have := fs_in l _ _ h; omega
  | .str l, a, i, h => fs_in l a i h
theorem ls_in : ∀ (t : Rt) (a i : Nat), i ∈ lsR t a → a ≤ i ∧ i < a + nR t
  | .emp, a, i, h => by cases h
  | .sgn _, a, i, h => by simp [lsR] at h; simp [nR, lvR]; omega
  | .alt l r, a, i, h => by
    rw [nR_alt]
    rcases List.mem_append.1 h with h | h
    · have := ls_in l _ _ h; omega
    · have := ls_in r _ _ h; omega
  | .seq l r, a, i, h => by
    rw [nR_seq]
    unfold lsR at h
    split at h
    · rcases List.mem_append.1 h with h | h
      · have := ls_in l _ _ h; omega
      · have := ls_in r _ _ h; omega
    · have := ls_in r _ _ h; omega
  | .str l, a, i, h => ls_in l a i h
theorem pr_in : ∀ (t : Rt) (a i j : Nat), (i, j) ∈ prR t a → (a ≤ i ∧ i < a + nR t) ∧ (a ≤ j ∧ j < a + nR t)
  | .emp, a, i, j, h => by cases h
  | .sgn _, a, i, j, h => by cases h
  | .alt l r, a, i, j, h => by
    rw [nR_alt]
    rcases List.mem_append.1 h with h | h
    · have := pr_in l _ _ _ h; omega
    · have := pr_in r _ _ _ h; omega
  | .seq l r, a, i, j, h => by
    rw [nR_seq]
    rcases List.mem_append.1 h with h | h
    · rcases List.mem_append.1 h with h | h
      · have := pr_in l _ _ _ h; omega
      · have := pr_in r _ _ _ h; omega
    · rw [mem_crs] at h
      have := ls_in l _ _ h.1
      have := fs_in r _ _ h.2
      omega
  | .str l, a, i, j, h => by
    rw [nR_str]
    rcases List.mem_append.1 h with h | h
    · exact pr_in l _ _ _ h
    · rw [mem_crs] at h
      exact ⟨ls_in l _ _ h.1, fs_in l _ _ h.2⟩
/-- What may follow a place. -/
def Aft : Rt → Nat → Nat → List UInt8 → Prop
  | .emp, _, _, _ => False
  | .sgn _, a, i, s => i = a ∧ s = []
  | .alt l r, a, i, s => Aft l a i s ∨ Aft r (a + nR l) i s
  | .seq l r, a, i, s => (∃ u v, s = u ++ v ∧ Aft l a i u ∧ mt r v = true) ∨ Aft r (a + nR l) i s
  | .str l, a, i, s => ∃ u v, s = u ++ v ∧ Aft l a i u ∧ mt (.str l) v = true
theorem aft_in : ∀ (t : Rt) (a i : Nat) (s : List UInt8), Aft t a i s → a ≤ i ∧ i < a + nR t
  | .emp, a, i, s, h => h.elim
  | .sgn _, a, i, s, h => by obtain ⟨h, _⟩ := h; simp [nR, lvR]; omega
  | .alt l r, a, i, s, h => by
    rw [nR_alt]
    rcases h with h | h
    · have := aft_in l _ _ _ h; omega
    · have := aft_in r _ _ _ h; omega
  | .seq l r, a, i, s, h => by
    rw [nR_seq]
    rcases h with ⟨u, v, _, h, _⟩ | h
    · have := aft_in l _ _ _ h; omega
    · have := aft_in r _ _ _ h; omega
  | .str l, a, i, s, ⟨u, v, _, h, _⟩ => aft_in l _ _ _ h
/-- The signs by their places. -/
def LabAt (lab : Nat → Option UInt8) (t : Rt) (a : Nat) : Prop := ∀ i, i < nR t → lab (a + i) = (lvR t)[i]?
theorem LabAt.altl {lab : Nat → Option UInt8} {l r : Rt} {a : Nat} (h : LabAt lab (.alt l r) a) : LabAt lab l a ∧ LabAt lab r (a + nR l) := by
  refine ⟨fun i hi => ?_, fun i hi => ?_⟩
  · rw [h i (by rw [nR_alt]; omega)]
    show (lvR l ++ lvR r)[i]? = _
    rw [List.getElem?_append_left hi]
  · rw [Nat.add_assoc, h (nR l + i) (by rw [nR_alt]; omega)]
    show (lvR l ++ lvR r)[nR l + i]? = _
    rw [List.getElem?_append_right (by unfold nR; omega)]
    congr 1; unfold nR; omega
theorem LabAt.seql {lab : Nat → Option UInt8} {l r : Rt} {a : Nat} (h : LabAt lab (.seq l r) a) : LabAt lab l a ∧ LabAt lab r (a + nR l) := LabAt.altl (l := l) (r := r) h
theorem first_law (lab : Nat → Option UInt8) : ∀ (t : Rt) (a : Nat), LabAt lab t a → ∀ (c : UInt8) (s : List UInt8), mt t (c :: s) = true ↔ ∃ i ∈ fsR t a, lab i = some c ∧ Aft t a i s
  | .emp, a, hl, c, s => by simp [mt, fsR]
  | .sgn d, a, hl, c, s => by
    have h0 := hl 0 (by simp [nR, lvR])
    simp only [lvR, Nat.add_zero, List.getElem?_cons_zero] at h0
    simp only [mt, fsR, List.mem_singleton, Aft, exists_eq_left, h0, true_and, beq_iff_eq, List.cons.injEq, Option.some.injEq]
    constructor
    · rintro ⟨rfl, h⟩; exact ⟨rfl, h⟩
    · rintro ⟨rfl, h⟩; exact ⟨rfl, h⟩
  | .alt l r, a, hl, c, s => by
    have h1 := first_law lab l a hl.altl.1 c s
    have h2 := first_law lab r (a + nR l) hl.altl.2 c s
    unfold mt
    rw [Bool.or_eq_true, h1, h2]
    constructor
    · rintro (⟨i, hi, hc, h⟩ | ⟨i, hi, hc, h⟩)
      · exact ⟨i, List.mem_append.2 (.inl hi), hc, .inl h⟩
      · exact ⟨i, List.mem_append.2 (.inr hi), hc, .inr h⟩
    · rintro ⟨i, hi, hc, h⟩
      rcases List.mem_append.1 hi with hi | hi
      · rcases h with h | h
        · exact .inl ⟨i, hi, hc, h⟩
        · have := fs_in _ _ _ hi; have := aft_in _ _ _ _ h; omega
      · rcases h with h | h
        · have := fs_in _ _ _ hi; have := aft_in _ _ _ _ h; omega
        · exact .inr ⟨i, hi, hc, h⟩
  | .seq l r, a, hl, c, s => by
    rw [mt_seq_iff]
    constructor
    · rintro ⟨u, v, e, h1, h2⟩
      cases u with
      | nil =>
        rw [List.nil_append] at e; subst e
        obtain ⟨i, hi, hc, h⟩ := (first_law lab r _ hl.seql.2 c s).1 h2
        rw [mt_nuR] at h1
        exact ⟨i, by unfold fsR; rw [if_pos h1]; exact List.mem_append.2 (.inr hi), hc, .inr h⟩
      | cons d u =>
        injection e with e1 e2; subst e1 e2
        obtain ⟨i, hi, hc, h⟩ := (first_law lab l _ hl.seql.1 c u).1 h1
        refine ⟨i, ?_, hc, .inl ⟨u, v, rfl, h, h2⟩⟩
        unfold fsR
        split
        · exact List.mem_append.2 (.inl hi)
        · exact hi
    · rintro ⟨i, hi, hc, h⟩
      have hi2 : i ∈ fsR l a ∨ (nuR l = true ∧ i ∈ fsR r (a + nR l)) := by
        unfold fsR at hi
        split at hi
        · rename_i hn
          rcases List.mem_append.1 hi with hi | hi
          · exact .inl hi
          · exact .inr ⟨hn, hi⟩
        · exact .inl hi
      rcases hi2 with hi | ⟨hn, hi⟩
      · rcases h with ⟨u, v, rfl, h, h2⟩ | h
        · exact ⟨c :: u, v, rfl, (first_law lab l _ hl.seql.1 c u).2 ⟨i, hi, hc, h⟩, h2⟩
        · have := fs_in _ _ _ hi; have := aft_in _ _ _ _ h; omega
      · rcases h with ⟨u, v, rfl, h, h2⟩ | h
        · have := fs_in _ _ _ hi; have := aft_in _ _ _ _ h; omega
        · exact ⟨[], c :: s, rfl, by rw [mt_nuR]; exact hn, (first_law lab r _ hl.seql.2 c s).2 ⟨i, hi, hc, h⟩⟩
  | .str l, a, hl, c, s => by
    rw [mt_str_iff]
    constructor
    · rintro (h | ⟨d, u, v, e, h1, h2⟩)
      · cases h
      · injection e with e1 e2; subst e1 e2
        obtain ⟨i, hi, hc, h⟩ := (first_law lab l _ hl c u).1 h1
        exact ⟨i, hi, hc, u, v, rfl, h, h2⟩
    · rintro ⟨i, hi, hc, u, v, rfl, h, h2⟩
      exact .inr ⟨c, u, v, rfl, (first_law lab l _ hl c u).2 ⟨i, hi, hc, h⟩, h2⟩
theorem last_law : ∀ (t : Rt) (a i : Nat), Aft t a i [] ↔ i ∈ lsR t a
  | .emp, a, i => by simp [Aft, lsR]
  | .sgn _, a, i => by simp [Aft, lsR]
  | .alt l r, a, i => by
    have h1 := last_law l a i
    have h2 := last_law r (a + nR l) i
    unfold Aft lsR
    rw [List.mem_append, h1, h2]
  | .seq l r, a, i => by
    have h1 := last_law l a i
    have h2 := last_law r (a + nR l) i
    have hm : i ∈ lsR (.seq l r) a ↔ (i ∈ lsR l a ∧ nuR r = true) ∨ i ∈ lsR r (a + nR l) := by
      change i ∈ (if nuR r = true then lsR l a ++ lsR r (a + nR l) else lsR r (a + nR l)) ↔ _
      split
      · rename_i hn; rw [List.mem_append, hn]; simp
      · rename_i hn; simp [hn]
    rw [hm, ← h1, ← h2]
    constructor
    · rintro (⟨u, v, e, h, h3⟩ | h)
      · obtain ⟨rfl, rfl⟩ := List.nil_eq_append_iff.1 e
        rw [mt_nuR] at h3
        exact .inl ⟨h, h3⟩
      · exact .inr h
    · rintro (⟨h, h3⟩ | h)
      · exact .inl ⟨[], [], rfl, h, by rw [mt_nuR]; exact h3⟩
      · exact .inr h
  | .str l, a, i => by
    have h1 := last_law l a i
    show _ ↔ i ∈ lsR l a
    rw [← h1]
    constructor
    · rintro ⟨u, v, e, h, h3⟩
      obtain ⟨rfl, rfl⟩ := List.nil_eq_append_iff.1 e
      exact h
    · intro h
      exact ⟨[], [], rfl, h, by rw [mt_nuR]; rfl⟩
theorem next_law (lab : Nat → Option UInt8) : ∀ (t : Rt) (a : Nat), LabAt lab t a → ∀ (i : Nat) (c : UInt8) (s : List UInt8), Aft t a i (c :: s) ↔ ∃ j, (i, j) ∈ prR t a ∧ lab j = some c ∧ Aft t a j s
  | .emp, a, hl, i, c, s => by simp [Aft]
  | .sgn d, a, hl, i, c, s => by simp [Aft, prR]
  | .alt l r, a, hl, i, c, s => by
    have h1 := next_law lab l a hl.altl.1 i c s
    have h2 := next_law lab r (a + nR l) hl.altl.2 i c s
    constructor
    · rintro (h | h)
      · obtain ⟨j, hj, hc, h⟩ := h1.1 h
        exact ⟨j, List.mem_append.2 (.inl hj), hc, .inl h⟩
      · obtain ⟨j, hj, hc, h⟩ := h2.1 h
        exact ⟨j, List.mem_append.2 (.inr hj), hc, .inr h⟩
    · rintro ⟨j, hj, hc, h⟩
      rcases List.mem_append.1 hj with hj | hj
      · rcases h with h | h
        · exact .inl (h1.2 ⟨j, hj, hc, h⟩)
        · have := pr_in _ _ _ _ hj; have := aft_in _ _ _ _ h; omega
      · rcases h with h | h
        · have := pr_in _ _ _ _ hj; have := aft_in _ _ _ _ h; omega
        · exact .inr (h2.2 ⟨j, hj, hc, h⟩)
  | .seq l r, a, hl, i, c, s => by
    constructor
    · rintro (⟨u, v, e, h, h3⟩ | h)
      · cases u with
        | nil =>
          rw [List.nil_append] at e; subst e
          rw [last_law] at h
          obtain ⟨j, hj, hc, h4⟩ := (first_law lab r _ hl.seql.2 c s).1 h3
          exact ⟨j, List.mem_append.2 (.inr (mem_crs.2 ⟨h, hj⟩)), hc, .inr h4⟩
        | cons d u =>
          injection e with e1 e2; subst e1 e2
          obtain ⟨j, hj, hc, h4⟩ := (next_law lab l _ hl.seql.1 i c u).1 h
          exact ⟨j, List.mem_append.2 (.inl (List.mem_append.2 (.inl hj))), hc, .inl ⟨u, v, rfl, h4, h3⟩⟩
      · obtain ⟨j, hj, hc, h4⟩ := (next_law lab r _ hl.seql.2 i c s).1 h
        exact ⟨j, List.mem_append.2 (.inl (List.mem_append.2 (.inr hj))), hc, .inr h4⟩
    · rintro ⟨j, hj, hc, h⟩
      rcases List.mem_append.1 hj with hj | hj
      · rcases List.mem_append.1 hj with hj | hj
        · rcases h with ⟨u, v, rfl, h, h3⟩ | h
          · exact .inl ⟨c :: u, v, rfl, (next_law lab l _ hl.seql.1 i c u).2 ⟨j, hj, hc, h⟩, h3⟩
          · have := pr_in _ _ _ _ hj; have := aft_in _ _ _ _ h; omega
        · rcases h with ⟨u, v, rfl, h, h3⟩ | h
          · have := pr_in _ _ _ _ hj; have := aft_in _ _ _ _ h; omega
          · exact .inr ((next_law lab r _ hl.seql.2 i c s).2 ⟨j, hj, hc, h⟩)
      · rw [mem_crs] at hj
        rcases h with ⟨u, v, rfl, h, h3⟩ | h
        · have := fs_in _ _ _ hj.2; have := aft_in _ _ _ _ h; omega
        · exact .inl ⟨[], c :: s, rfl, (last_law _ _ _).2 hj.1, (first_law lab r _ hl.seql.2 c s).2 ⟨j, hj.2, hc, h⟩⟩
  | .str l, a, hl, i, c, s => by
    constructor
    · rintro ⟨u, v, e, h, h3⟩
      cases u with
      | nil =>
        rw [List.nil_append] at e; subst e
        rw [last_law] at h
        rcases (mt_str_iff _ _).1 h3 with h4 | ⟨d, u, v, e, h1, h2⟩
        · cases h4
        · injection e with e1 e2; subst e1 e2
          obtain ⟨j, hj, hc, h4⟩ := (first_law lab l _ hl c u).1 h1
          exact ⟨j, List.mem_append.2 (.inr (mem_crs.2 ⟨h, hj⟩)), hc, u, v, rfl, h4, h2⟩
      | cons d u =>
        injection e with e1 e2; subst e1 e2
        obtain ⟨j, hj, hc, h4⟩ := (next_law lab l _ hl i c u).1 h
        exact ⟨j, List.mem_append.2 (.inl hj), hc, u, v, rfl, h4, h3⟩
    · rintro ⟨j, hj, hc, u, v, rfl, h, h3⟩
      rcases List.mem_append.1 hj with hj | hj
      · exact ⟨c :: u, v, rfl, (next_law lab l _ hl i c u).2 ⟨j, hj, hc, h⟩, h3⟩
      · rw [mem_crs] at hj
        refine ⟨[], c :: (u ++ v), rfl, (last_law _ _ _).2 hj.1, ?_⟩
        exact (mt_str_iff _ _).2 (.inr ⟨c, u, v, rfl, (first_law lab l _ hl c u).2 ⟨j, hj.2, hc, h⟩, h3⟩)

/-! ### The way from place to place -/
/-- From a place on, its sign the text's first one, to one with which it can end. -/
def GoN (lab : Nat → Option UInt8) (pr : Nat → Nat → Prop) (ls : Nat → Prop) : Nat → List UInt8 → Prop
  | _, [] => False
  | i, [c] => lab i = some c ∧ ls i
  | i, c :: d :: s => lab i = some c ∧ ∃ j, pr i j ∧ GoN lab pr ls j (d :: s)
theorem go_aft {lab : Nat → Option UInt8} {t : Rt} {a : Nat} (hl : LabAt lab t a) : ∀ (s : List UInt8) (i : Nat) (c : UInt8), GoN lab (fun i j => (i, j) ∈ prR t a) (fun i => i ∈ lsR t a) i (c :: s) ↔ lab i = some c ∧ Aft t a i s
  | [], i, c => by unfold GoN; rw [last_law]
  | d :: s, i, c => by
    unfold GoN
    rw [next_law lab t a hl]
    constructor
    · rintro ⟨h1, j, hj, h⟩
      obtain ⟨h2, h3⟩ := (go_aft hl s j d).1 h
      exact ⟨h1, j, hj, h2, h3⟩
    · rintro ⟨h1, j, hj, h2, h3⟩
      exact ⟨h1, j, hj, (go_aft hl s j d).2 ⟨h2, h3⟩⟩
/-- Glushkov: what fits is what there is a way for. -/
theorem glushkov {lab : Nat → Option UInt8} {t : Rt} {a : Nat} (hl : LabAt lab t a) (s : List UInt8) (hs : s ≠ []) : mt t s = true ↔ ∃ i ∈ fsR t a, GoN lab (fun i j => (i, j) ∈ prR t a) (fun i => i ∈ lsR t a) i s := by
  cases s with
  | nil => exact absurd rfl hs
  | cons c s =>
    rw [first_law lab t a hl]
    constructor
    · rintro ⟨i, hi, h⟩; exact ⟨i, hi, (go_aft hl s i c).2 h⟩
    · rintro ⟨i, hi, h⟩; exact ⟨i, hi, (go_aft hl s i c).1 h⟩
/-- All places at once. -/
def atN (lv : List UInt8) (now : Nat → Bool) (c : UInt8) (i : Nat) : Bool := now i && lv[i]? == some c
def goN (n : Nat) (pr : Nat → Nat → Bool) (A : Nat → Bool) (j : Nat) : Bool := (List.range n).any fun i => A i && pr i j
def simN (lv : List UInt8) (pr : Nat → Nat → Bool) (ls : Nat → Bool) : (Nat → Bool) → List UInt8 → Bool
  | _, [] => false
  | now, [c] => (List.range lv.length).any fun i => atN lv now c i && ls i
  | now, c :: d :: s => simN lv pr ls (goN lv.length pr (atN lv now c)) (d :: s)
theorem sim_go (lv : List UInt8) (pr : Nat → Nat → Bool) (ls : Nat → Bool) : ∀ (s : List UInt8) (now : Nat → Bool), simN lv pr ls now s = true ↔ ∃ i, now i = true ∧ GoN (fun i => lv[i]?) (fun i j => pr i j = true) (fun i => ls i = true) i s
  | [], now => by simp [simN, GoN]
  | [c], now => by
    unfold simN
    rw [List.any_eq_true]
    constructor
    · rintro ⟨i, _, h⟩
      unfold atN at h
      simp only [Bool.and_eq_true, beq_iff_eq] at h
      exact ⟨i, h.1.1, h.1.2, h.2⟩
    · rintro ⟨i, h1, h2, h3⟩
      have h2' : lv[i]? = some c := h2
      refine ⟨i, List.mem_range.2 (List.getElem?_eq_some_iff.1 h2').1, ?_⟩
      unfold atN
      simp only [Bool.and_eq_true, beq_iff_eq]
      exact ⟨⟨h1, h2'⟩, h3⟩
  | c :: d :: s, now => by
    unfold simN
    rw [sim_go lv pr ls (d :: s)]
    constructor
    · rintro ⟨j, hj, h⟩
      unfold goN at hj
      rw [List.any_eq_true] at hj
      obtain ⟨i, _, h2⟩ := hj
      unfold atN at h2
      simp only [Bool.and_eq_true, beq_iff_eq] at h2
      exact ⟨i, h2.1.1, h2.1.2, j, h2.2, h⟩
    · rintro ⟨i, h1, h2, j, hj, h⟩
      have h2' : lv[i]? = some c := h2
      refine ⟨j, ?_, h⟩
      unfold goN
      rw [List.any_eq_true]
      refine ⟨i, List.mem_range.2 (List.getElem?_eq_some_iff.1 h2').1, ?_⟩
      unfold atN
      simp only [Bool.and_eq_true, beq_iff_eq]
      exact ⟨⟨h1, h2'⟩, hj⟩

/-! ### The program's sets -/
def fsP : Pt → List Nat
  | .sgn _ k => [k]
  | .alt l r => fsP l ++ fsP r
  | .seq l r => if nul l = true then fsP l ++ fsP r else fsP l
  | .str l => fsP l
  | _ => []
def lsP : Pt → List Nat
  | .sgn _ k => [k]
  | .alt l r => lsP l ++ lsP r
  | .seq l r => if nul r = true then lsP r ++ lsP l else lsP r
  | .str l => lsP l
  | _ => []
def prP : Pt → List (Nat × Nat)
  | .alt l r => prP l ++ prP r
  | .seq l r => prP l ++ prP r ++ crs (lsP l) (fsP r)
  | .str l => prP l ++ crs (lsP l) (fsP l)
  | _ => []
theorem nuR_rel {a : Rt} {x : Pt} (h : Rel a x) : nuR a = nul x := by rw [← mt_nuR, mt_nul h]
theorem num_rel {a : Rt} {x : Pt} (h : Rel a x) {p q : Nat} (hn : Num x p q) : q = p + nR a := by
  have := hn.len
  rw [this, ← lv_rel h]; rfl
theorem sets_rel {a : Rt} {x : Pt} (h : Rel a x) : ∀ {p q : Nat}, Num x p q → (∀ i, i ∈ fsP x ↔ i ∈ fsR a p) ∧ (∀ i, i ∈ lsP x ↔ i ∈ lsR a p) ∧ (∀ i j, (i, j) ∈ prP x ↔ (i, j) ∈ prR a p) := by
  induction h with
  | emp => intro p q hn; exact ⟨fun _ => Iff.rfl, fun _ => Iff.rfl, fun _ _ => Iff.rfl⟩
  | empS => intro p q hn; exact ⟨fun _ => Iff.rfl, fun _ => Iff.rfl, fun _ _ => Iff.rfl⟩
  | sgn c k =>
    intro p q hn
    obtain ⟨rfl, _⟩ := hn
    exact ⟨fun _ => Iff.rfl, fun _ => Iff.rfl, fun _ _ => Iff.rfl⟩
  | alt h1 h2 ih1 ih2 =>
    intro p q hn
    obtain ⟨m, n1, n2⟩ := hn
    have e := num_rel h1 n1
    subst e
    obtain ⟨a1, a2, a3⟩ := ih1 n1
    obtain ⟨b1, b2, b3⟩ := ih2 n2
    refine ⟨fun i => ?_, fun i => ?_, fun i j => ?_⟩
    · unfold fsP fsR; rw [List.mem_append, List.mem_append, a1, b1]
    · unfold lsP lsR; rw [List.mem_append, List.mem_append, a2, b2]
    · unfold prP prR; rw [List.mem_append, List.mem_append, a3, b3]
  | seq h1 h2 ih1 ih2 =>
    intro p q hn
    obtain ⟨m, n1, n2⟩ := hn
    have e := num_rel h1 n1
    subst e
    obtain ⟨a1, a2, a3⟩ := ih1 n1
    obtain ⟨b1, b2, b3⟩ := ih2 n2
    refine ⟨fun i => ?_, fun i => ?_, fun i j => ?_⟩
    · unfold fsP fsR; rw [nuR_rel h1]; split
      · rw [List.mem_append, List.mem_append, a1, b1]
      · exact a1 i
    · unfold lsP lsR; rw [nuR_rel h2]; split
      · rw [List.mem_append, List.mem_append, a2, b2, Or.comm]
      · exact b2 i
    · unfold prP prR; rw [List.mem_append, List.mem_append, List.mem_append, List.mem_append, a3, b3, mem_crs, mem_crs, a2, b1]
  | str h1 ih1 =>
    intro p q hn
    obtain ⟨a1, a2, a3⟩ := ih1 (p := p) (q := q) hn
    refine ⟨fun i => a1 i, fun i => a2 i, fun i j => ?_⟩
    unfold prP prR; rw [List.mem_append, List.mem_append, a3, mem_crs, mem_crs, a1, a2]
  | strS h1 ih1 =>
    intro p q hn
    obtain ⟨a1, a2, a3⟩ := ih1 (p := p) (q := q) hn
    refine ⟨fun i => a1 i, fun i => a2 i, fun i j => ?_⟩
    have e := a3 i j
    unfold prR
    rw [List.mem_append, ← e]
    constructor
    · exact .inl
    · rintro (h | h)
      · exact h
      · rw [mem_crs, ← a1, ← a2] at h
        unfold prP
        exact List.mem_append.2 (.inr (mem_crs.2 h))
end Go.Proofs.YtchhbnnpannnhaaDoor
