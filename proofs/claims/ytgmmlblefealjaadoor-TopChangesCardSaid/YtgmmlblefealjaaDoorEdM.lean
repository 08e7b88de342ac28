/- How far two texts are from one another, and what they have in common, in plain Lean. No condition. -/
import Derived.Test.YtgmmlblefealjaaDoorPlain
namespace Go.Proofs.YtgmmlblefealjaaDoor
set_option linter.unusedVariables false

/-- A row of steps from one text to another one, and how many of them change something. -/
inductive Al : List UInt8 → List UInt8 → Nat → Prop
  | nil : Al [] [] 0
  | keep (c : UInt8) {a b : List UInt8} {n : Nat} : Al a b n → Al (c :: a) (c :: b) n
  | sub (c d : UInt8) {a b : List UInt8} {n : Nat} : Al a b n → Al (c :: a) (d :: b) (n + 1)
  | ins (d : UInt8) {a b : List UInt8} {n : Nat} : Al a b n → Al a (d :: b) (n + 1)
  | del (c : UInt8) {a b : List UInt8} {n : Nat} : Al a b n → Al (c :: a) b (n + 1)
theorem Al.app {a b : List UInt8} {n : Nat} (h : Al a b n) {a' b' : List UInt8} {m : Nat} (h' : Al a' b' m) : Al (a ++ a') (b ++ b') (n + m) := by
  induction h with
  | nil => simpa using h'
  | keep c _ ih => exact ih.keep c
  | sub c d _ ih => rw [Nat.add_right_comm]; exact ih.sub c d
  | ins d _ ih => rw [Nat.add_right_comm]; exact ih.ins d
  | del c _ ih => rw [Nat.add_right_comm]; exact ih.del c
theorem Al.rev {a b : List UInt8} {n : Nat} (h : Al a b n) : Al a.reverse b.reverse n := by
  induction h with
  | nil => exact .nil
  | keep c _ ih => rw [List.reverse_cons, List.reverse_cons]; exact ih.app (m := 0) (Al.nil.keep c)
  | sub c d _ ih => rw [List.reverse_cons, List.reverse_cons]; exact ih.app (m := 1) (Al.nil.sub c d)
  | ins d _ ih => rw [List.reverse_cons]; simpa using ih.app (m := 1) (Al.nil.ins d)
  | del c _ ih => rw [List.reverse_cons]; simpa using ih.app (m := 1) (Al.nil.del c)
theorem Al.refl_ : ∀ a : List UInt8, Al a a 0
  | [] => .nil
  | c :: a => (Al.refl_ a).keep c
theorem Al.insL : ∀ s : List UInt8, Al [] s s.length
  | [] => .nil
  | d :: s => (Al.insL s).ins d
theorem Al.delL : ∀ s : List UInt8, Al s [] s.length
  | [] => .nil
  | d :: s => (Al.delL s).del d
theorem Al.len {a b : List UInt8} {n : Nat} (h : Al a b n) : b.length ≤ a.length + n ∧ a.length ≤ b.length + n := by
  induction h with
  | nil => simp
  | keep c _ ih => simp; omega
  | sub c d _ ih => simp; omega
  | ins d _ ih => simp; omega
  | del c _ ih => simp; omega
theorem Al.tailA {A b : List UInt8} {n : Nat} (h : Al A b n) : ∀ {c : UInt8} {a : List UInt8}, A = c :: a → ∃ m, m ≤ n + 1 ∧ Al a b m := by
  induction h with
  | nil => intro c a e; cases e
  | keep x h ih => intro c a e; injection e with e1 e2; subst e2; exact ⟨_, Nat.le_refl _, h.ins x⟩
  | @sub x d a' b' n h ih => intro c a e; injection e with e1 e2; subst e2; exact ⟨n + 1, by omega, h.ins d⟩
  | ins d _ ih => intro c a e; obtain ⟨m, hm, h⟩ := ih e; exact ⟨m + 1, by omega, h.ins d⟩
  | @del x a' b' n h ih => intro c a e; injection e with e1 e2; subst e2; exact ⟨n, by omega, h⟩
theorem Al.swap {a b : List UInt8} {n : Nat} (h : Al a b n) : Al b a n := by
  induction h with
  | nil => exact .nil
  | keep c _ ih => exact ih.keep c
  | sub c d _ ih => exact ih.sub d c
  | ins d _ ih => exact ih.del d
  | del c _ ih => exact ih.ins c
theorem Al.tailB {a B : List UInt8} {n : Nat} (h : Al a B n) {d : UInt8} {b : List UInt8} (e : B = d :: b) : ∃ m, m ≤ n + 1 ∧ Al a b m := by
  obtain ⟨m, hm, h'⟩ := h.swap.tailA e
  exact ⟨m, hm, h'.swap⟩
/-- One with the same sign ahead. -/
theorem Al.same {c : UInt8} {a b : List UInt8} {n : Nat} (h : Al (c :: a) (c :: b) n) : ∃ m, m ≤ n ∧ Al a b m := by
  cases h with
  | keep _ h => exact ⟨n, Nat.le_refl _, h⟩
  | @sub _ _ _ _ n h => exact ⟨n, by omega, h⟩
  | @ins _ _ _ n h => obtain ⟨m, hm, h'⟩ := h.tailA rfl; exact ⟨m, hm, h'⟩
  | @del _ _ _ n h => obtain ⟨m, hm, h'⟩ := h.tailB rfl; exact ⟨m, hm, h'⟩
theorem Al.diff {c d : UInt8} {a b : List UInt8} {n : Nat} (h : Al (c :: a) (d :: b) n) (hne : c ≠ d) : ∃ m, n = m + 1 ∧ (Al a b m ∨ Al (c :: a) b m ∨ Al a (d :: b) m) := by
  cases h with
  | keep _ h => exact absurd rfl hne
  | @sub _ _ _ _ n h => exact ⟨n, rfl, .inl h⟩
  | @ins _ _ _ n h => exact ⟨n, rfl, .inr (.inl h)⟩
  | @del _ _ _ n h => exact ⟨n, rfl, .inr (.inr h)⟩

/-- The program's table, by beginnings. -/
def dd (a b : List UInt8) : Nat → Nat → Nat
  | 0, j => j
  | i + 1, 0 => i + 1
  | i + 1, j + 1 => if bu a i = bu b j then dd a b i j else 1 + min (min (dd a b i j) (dd a b (i + 1) j)) (dd a b i (j + 1))
def Far (a b : List UInt8) (n : Nat) : Prop := Al a b n ∧ ∀ m, Al a b m → n ≤ m
theorem take_rev {l : List UInt8} {i : Nat} (h : i < l.length) : (l.take (i + 1)).reverse = bu l i :: (l.take i).reverse := by
  rw [take_succ_bu h, List.reverse_append]; rfl
theorem dd_far (a b : List UInt8) : ∀ i j, i ≤ a.length → j ≤ b.length → Far (a.take i).reverse (b.take j).reverse (dd a b i j)
  | 0, j, hi, hj => by
    have e : (b.take j).reverse.length = j := by rw [List.length_reverse, List.length_take]; omega
    unfold dd
    refine ⟨?_, fun m h => ?_⟩
    · have := Al.insL (b.take j).reverse
      rw [e] at this
      exact this
    · have := h.len.1
      rw [e] at this
      simpa using this
  | i + 1, 0, hi, hj => by
    have e : (a.take (i + 1)).reverse.length = i + 1 := by rw [List.length_reverse, List.length_take]; omega
    unfold dd
    refine ⟨?_, fun m h => ?_⟩
    · have := Al.delL (a.take (i + 1)).reverse
      rw [e] at this
      exact this
    · have := h.len.2
      rw [e] at this
      simpa using this
  | i + 1, j + 1, hi, hj => by
    have h1 := dd_far a b i j (by omega) (by omega)
    have h2 := dd_far a b (i + 1) j hi (by omega)
    have h3 := dd_far a b i (j + 1) (by omega) hj
    rw [take_rev (by omega)] at h2 ⊢
    rw [take_rev (l := b) (by omega)] at h3 ⊢
    unfold dd
    split
    · rename_i hc
      rw [hc]
      exact ⟨h1.1.keep _, fun m h => by obtain ⟨k, hk, h'⟩ := h.same; exact Nat.le_trans (h1.2 _ h') hk⟩
    · rename_i hc
      refine ⟨?_, fun m h => ?_⟩
      · rcases Nat.le_total (dd a b i j) (dd a b (i + 1) j) with q | q
        · rw [Nat.min_eq_left q]
          rcases Nat.le_total (dd a b i j) (dd a b i (j + 1)) with q | q
          · rw [Nat.min_eq_left q, Nat.add_comm]; exact h1.1.sub _ _
          · rw [Nat.min_eq_right q, Nat.add_comm]; exact h3.1.del _
        · rw [Nat.min_eq_right q]
          rcases Nat.le_total (dd a b (i + 1) j) (dd a b i (j + 1)) with q | q
          · rw [Nat.min_eq_left q, Nat.add_comm]; exact h2.1.ins _
          · rw [Nat.min_eq_right q, Nat.add_comm]; exact h3.1.del _
      · obtain ⟨k, rfl, h' | h' | h'⟩ := h.diff hc
        · have := h1.2 _ h'; omega
        · have := h2.2 _ h'; omega
        · have := h3.2 _ h'; omega
/-- How far two texts are from one another. -/
def ed (a b : List UInt8) : Nat := dd a b a.length b.length
theorem ed_far (a b : List UInt8) : Far a b (ed a b) := by
  have h := dd_far a b a.length b.length (Nat.le_refl _) (Nat.le_refl _)
  rw [List.take_length, List.take_length] at h
  refine ⟨?_, fun m hm => h.2 m hm.rev⟩
  have := h.1.rev
  rwa [List.reverse_reverse, List.reverse_reverse] at this
theorem ed_le {a b : List UInt8} {n : Nat} (h : Al a b n) : ed a b ≤ n := (ed_far a b).2 n h
theorem ed_nilL (b : List UInt8) : ed [] b = b.length := by unfold ed; rw [show ([] : List UInt8).length = 0 from rfl]; unfold dd; rfl
theorem ed_nil : ed [] [] = 0 := ed_nilL []
theorem ed_nilR (a : List UInt8) : ed a [] = a.length := by
  have h1 := ed_le (Al.delL a)
  have h2 := (ed_far a []).1.len.2
  simp at h2; omega
theorem ed_same (c : UInt8) (a b : List UInt8) : ed (c :: a) (c :: b) = ed a b := by
  have h1 := ed_le ((ed_far a b).1.keep c)
  obtain ⟨m, hm, h⟩ := (ed_far (c :: a) (c :: b)).1.same
  have h2 := ed_le h
  omega
theorem ed_diff {c d : UInt8} (a b : List UInt8) (h : c ≠ d) : ed a b + 1 = ed (c :: a) (d :: b) ∨ ed (c :: a) b + 1 = ed (c :: a) (d :: b) ∨ ed a (d :: b) + 1 = ed (c :: a) (d :: b) := by
  have h1 := ed_le ((ed_far a b).1.sub c d)
  have h2 := ed_le ((ed_far (c :: a) b).1.ins d)
  have h3 := ed_le ((ed_far a (d :: b)).1.del c)
  obtain ⟨m, hm, h' | h' | h'⟩ := (ed_far (c :: a) (d :: b)).1.diff h
  · have := ed_le h'; omega
  · have := ed_le h'; omega
  · have := ed_le h'; omega
/-- A word put in is as far as it is long. -/
theorem ed_put (t s : List UInt8) (n : Nat) (hn : n ≤ t.length) : ed t (t.take n ++ s ++ t.drop n) = s.length := by
  have h1 : Al t (t.take n ++ s ++ t.drop n) s.length := by
    have := ((Al.refl_ (t.take n)).app (Al.insL s)).app (Al.refl_ (t.drop n))
    simpa using this
  have h2 := ed_le h1
  have h3 := (ed_far t (t.take n ++ s ++ t.drop n)).1.len.1
  simp only [List.length_append, List.length_take, List.length_drop] at h3
  omega
theorem ed_bound (a b : List UInt8) : ed a b ≤ a.length + b.length := by
  have := ed_le (Al.app (Al.delL a) (Al.insL b))
  simpa using this

/-- How many signs two texts have in common, in order. -/
def lc : List UInt8 → List UInt8 → Nat
  | [], _ => 0
  | _ :: _, [] => 0
  | c :: a, d :: b => if c = d then 1 + lc a b else max (lc a (d :: b)) (lc (c :: a) b)
termination_by a b => a.length + b.length
theorem lc_nilL (b : List UInt8) : lc [] b = 0 := by unfold lc; rfl
theorem lc_nilR (a : List UInt8) : lc a [] = 0 := by cases a <;> simp [lc]
theorem lc_cons (c d : UInt8) (a b : List UInt8) : lc (c :: a) (d :: b) = if c = d then 1 + lc a b else max (lc a (d :: b)) (lc (c :: a) b) := by rw [lc]
theorem lc_mono : ∀ (n : Nat) (a b : List UInt8), a.length + b.length ≤ n → (∀ c, lc a b ≤ lc (c :: a) b ∧ lc (c :: a) b ≤ lc a b + 1) ∧ (∀ d, lc a b ≤ lc a (d :: b) ∧ lc a (d :: b) ≤ lc a b + 1) := by
  intro n
  induction n with
  | zero =>
    intro a b h
    have ha : a = [] := List.length_eq_zero_iff.1 (by omega)
    have hb : b = [] := List.length_eq_zero_iff.1 (by omega)
    subst ha hb
    simp [lc_nilL, lc_nilR]
  | succ n ih =>
    have key1 : ∀ (a b : List UInt8), a.length + b.length ≤ n + 1 → ∀ c, lc a b ≤ lc (c :: a) b ∧ lc (c :: a) b ≤ lc a b + 1 := by
      intro a b
      induction b with
      | nil => intro h c; simp [lc_nilR]
      | cons d b ihb =>
        intro h c
        simp only [List.length_cons] at h
        have hab := ih a b (by omega)
        have h4 := (hab.2 d)
        have h1 := ihb (by omega) c
        rw [lc_cons]
        split
        · omega
        · omega
    have key2 : ∀ (a b : List UInt8), a.length + b.length ≤ n + 1 → ∀ d, lc a b ≤ lc a (d :: b) ∧ lc a (d :: b) ≤ lc a b + 1 := by
      intro a
      induction a with
      | nil => intro b h d; simp [lc_nilL]
      | cons c a iha =>
        intro b h d
        simp only [List.length_cons] at h
        have hab := ih a b (by omega)
        have h4 := (hab.1 c)
        have h1 := iha b (by omega) d
        rw [lc_cons]
        split
        · omega
        · omega
    intro a b h
    exact ⟨key1 a b h, key2 a b h⟩
theorem lc_a (c : UInt8) (a b : List UInt8) : lc a b ≤ lc (c :: a) b := ((lc_mono _ a b (Nat.le_refl _)).1 c).1
theorem lc_b (d : UInt8) (a b : List UInt8) : lc a b ≤ lc a (d :: b) := ((lc_mono _ a b (Nat.le_refl _)).2 d).1
theorem lc_le : ∀ (a b : List UInt8), lc a b ≤ a.length
  | [], b => by rw [lc_nilL]; exact Nat.zero_le _
  | c :: a, b => by
    have h1 := lc_le a b
    have h2 := ((lc_mono _ a b (Nat.le_refl _)).1 c).2
    simp; omega

/-- The next step: the program's choice. -/
def nxt : List UInt8 → List UInt8 → UInt8 × List UInt8 × List UInt8
  | c :: a, d :: b => if c ≠ d ∧ ed a b + 1 = ed (c :: a) (d :: b) then (33, a, b) else if ed (c :: a) b + 1 = ed (c :: a) (d :: b) then (43, c :: a, b) else if ed a (d :: b) + 1 = ed (c :: a) (d :: b) then (45, a, d :: b) else (61, a, b)
  | [], d :: b => (43, [], b)
  | c :: a, [] => (45, a, [])
  | [], [] => (61, [], [])
theorem nxt_cons (c d : UInt8) (a b : List UInt8) : nxt (c :: a) (d :: b) = if c ≠ d ∧ ed a b + 1 = ed (c :: a) (d :: b) then (33, a, b) else if ed (c :: a) b + 1 = ed (c :: a) (d :: b) then (43, c :: a, b) else if ed a (d :: b) + 1 = ed (c :: a) (d :: b) then (45, a, d :: b) else (61, a, b) := rfl
/-- What a step is, and leads to. -/
inductive Stp : List UInt8 → List UInt8 → UInt8 → List UInt8 → List UInt8 → Prop
  | keep (c : UInt8) (a b : List UInt8) : Stp (c :: a) (c :: b) 61 a b
  | sub (c d : UInt8) (a b : List UInt8) : Stp (c :: a) (d :: b) 33 a b
  | ins (d : UInt8) (a b : List UInt8) : Stp a (d :: b) 43 a b
  | del (c : UInt8) (a b : List UInt8) : Stp (c :: a) b 45 a b
theorem nxt_stp : ∀ (a b : List UInt8), ¬ (a = [] ∧ b = []) → Stp a b (nxt a b).1 (nxt a b).2.1 (nxt a b).2.2 ∧ ed (nxt a b).2.1 (nxt a b).2.2 + (if (nxt a b).1 = 61 then 0 else 1) = ed a b
  | [], [], h => absurd ⟨rfl, rfl⟩ h
  | [], d :: b, _ => ⟨.ins d [] b, by simp [nxt, ed_nilL]⟩
  | c :: a, [], _ => ⟨.del c a [], by simp [nxt, ed_nilR]⟩
  | c :: a, d :: b, _ => by
    rw [nxt_cons]
    by_cases h1 : c ≠ d ∧ ed a b + 1 = ed (c :: a) (d :: b)
    · rw [if_pos h1]; exact ⟨.sub c d a b, by simpa using h1.2⟩
    rw [if_neg h1]
    by_cases h2 : ed (c :: a) b + 1 = ed (c :: a) (d :: b)
    · rw [if_pos h2]; exact ⟨.ins d (c :: a) b, by simpa using h2⟩
    rw [if_neg h2]
    by_cases h3 : ed a (d :: b) + 1 = ed (c :: a) (d :: b)
    · rw [if_pos h3]; exact ⟨.del c a (d :: b), by simpa using h3⟩
    rw [if_neg h3]
    by_cases hc : c = d
    · subst hc
      exact ⟨.keep c a b, by simp [ed_same]⟩
    · rcases ed_diff a b hc with h | h | h
      · exact absurd ⟨hc, h⟩ h1
      · exact absurd h h2
      · exact absurd h h3
theorem Stp.less {a b a' b' : List UInt8} {x : UInt8} (h : Stp a b x a' b') : a'.length + b'.length < a.length + b.length := by
  cases h <;> simp <;> omega
theorem Stp.lc {a b a' b' : List UInt8} {x : UInt8} (h : Stp a b x a' b') : Go.Proofs.YtgmmlblefealjaaDoor.lc a' b' + (if x = 61 then 1 else 0) ≤ Go.Proofs.YtgmmlblefealjaaDoor.lc a b := by
  cases h with
  | keep c => rw [lc_cons, if_pos rfl]; simp; omega
  | sub c d => have h1 := lc_a c a' b'; have h2 := lc_b d (c :: a') b'; simp; omega
  | ins d => have h2 := lc_b d a b'; simp; omega
  | del c => have h2 := lc_a c a' b; simp; omega
/-- All steps; fuel: how many signs are left. -/
def stepsF : Nat → List UInt8 → List UInt8 → List UInt8
  | 0, _, _ => []
  | f + 1, a, b => if a = [] ∧ b = [] then [] else (nxt a b).1 :: stepsF f (nxt a b).2.1 (nxt a b).2.2
def stepsM (a b : List UInt8) : List UInt8 := stepsF (a.length + b.length) a b
/-- A row of steps that leads from one text to another one. -/
inductive Steps : List UInt8 → List UInt8 → List UInt8 → Prop
  | nil : Steps [] [] []
  | cons {a b a' b' s : List UInt8} {x : UInt8} : Stp a b x a' b' → Steps a' b' s → Steps a b (x :: s)
theorem stepsF_ok : ∀ (f : Nat) (a b : List UInt8), a.length + b.length ≤ f → Steps a b (stepsF f a b) ∧ (stepsF f a b).length = (stepsF f a b).count 61 + ed a b ∧ (stepsF f a b).count 61 ≤ lc a b ∧ (stepsF f a b).length ≤ a.length + b.length
  | 0, a, b, h => by
    have ha : a = [] := List.length_eq_zero_iff.1 (by omega)
    have hb : b = [] := List.length_eq_zero_iff.1 (by omega)
    subst ha hb
    exact ⟨.nil, by simp [stepsF, ed_nil], by simp [stepsF], by simp [stepsF]⟩
  | f + 1, a, b, h => by
    unfold stepsF
    by_cases h0 : a = [] ∧ b = []
    · rw [if_pos h0]
      obtain ⟨rfl, rfl⟩ := h0
      exact ⟨.nil, by simp [ed_nil], by simp, by simp⟩
    rw [if_neg h0]
    obtain ⟨h1, h2⟩ := nxt_stp a b h0
    have h3 := h1.less
    have h4 := h1.lc
    obtain ⟨i1, i2, i3, i4⟩ := stepsF_ok f _ _ (show (nxt a b).2.1.length + (nxt a b).2.2.length ≤ f by omega)
    refine ⟨.cons h1 i1, ?_, ?_, ?_⟩
    · rw [List.length_cons, List.count_cons]
      by_cases e : (nxt a b).1 = 61
      · rw [if_pos e] at h2; simp [e]; omega
      · rw [if_neg e] at h2; simp [e]; omega
    · rw [List.count_cons]
      by_cases e : (nxt a b).1 = 61
      · rw [if_pos e] at h4; simp [e]; omega
      · rw [if_neg e] at h4; simp [e]; omega
    · rw [List.length_cons]; omega
theorem steps_ok (a b : List UInt8) : Steps a b (stepsM a b) ∧ (stepsM a b).length = (stepsM a b).count 61 + ed a b ∧ (stepsM a b).count 61 ≤ lc a b ∧ (stepsM a b).length ≤ a.length + b.length := stepsF_ok _ a b (Nat.le_refl _)
end Go.Proofs.YtgmmlblefealjaaDoor
