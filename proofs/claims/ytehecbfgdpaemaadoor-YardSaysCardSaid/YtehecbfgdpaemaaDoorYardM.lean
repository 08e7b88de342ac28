/- What package yard computes, in plain Lean: signs waiting on a stack; sums as trees. -/
import Derived.Test.YtehecbfgdpaemaaDoorPlain
namespace Go.Proofs.YtehecbfgdpaemaaDoor.YardM
open Go.Proofs.YtehecbfgdpaemaaDoor
def rk (c : UInt8) : Nat := if c == 43 || c == 45 then 1 else if c == 42 then 2 else if c == 94 then 3 else 0
def dig (c : UInt8) : Bool := decide (48 ≤ c.toNat ∧ c.toNat ≤ 57)
/-- Signs given out ahead of one of rank k. The stack's top is its head. -/
def popK (k : Nat) : List UInt8 → List UInt8 → List UInt8 × List UInt8
  | o, [] => (o, [])
  | o, t :: st => if decide (k < rk t) || (rk t == k && k != 3) then popK k (o ++ [t]) st else (o, t :: st)
def popB : List UInt8 → List UInt8 → List UInt8 × List UInt8
  | o, [] => (o, [])
  | o, t :: st => if t != 40 then popB (o ++ [t]) st else (o, t :: st)
structure St where
  o : List UInt8
  st : List UInt8
  v : Bool
def stp (s : St) (c : UInt8) : Option St :=
  if dig c && !s.v then some ⟨s.o ++ [c], s.st, true⟩
  else if c == 40 && !s.v then some ⟨s.o, 40 :: s.st, false⟩
  else if c == 41 && s.v then
    match (popB s.o s.st).2 with
    | [] => none
    | _ :: st => some ⟨(popB s.o s.st).1, st, true⟩
  else if rk c != 0 && s.v then some ⟨(popK (rk c) s.o s.st).1, c :: (popK (rk c) s.o s.st).2, false⟩
  else none
def run : St → List UInt8 → Option St
  | s, [] => some s
  | s, c :: l => match stp s c with
    | none => none
    | some s' => run s' l
def fin : List UInt8 → List UInt8 → Option (List UInt8)
  | o, [] => some o
  | o, t :: st => if t == 40 then none else fin (o ++ [t]) st
def postM (l : List UInt8) : Option (List UInt8) := match run ⟨[], [], false⟩ l with
  | none => none
  | some s => if s.v then fin s.o s.st else none

/-- How a text can end well: the depth of brackets, and has something just ended that has a value. -/
def astp (d : Nat) (v : Bool) (c : UInt8) : Option (Nat × Bool) :=
  if dig c && !v then some (d, true)
  else if c == 40 && !v then some (d + 1, false)
  else if c == 41 && v then (if d == 0 then none else some (d - 1, true))
  else if rk c != 0 && v then some (d, false)
  else none
def arun : Nat → Bool → List UInt8 → Option (Nat × Bool)
  | d, v, [] => some (d, v)
  | d, v, c :: l => match astp d v c with
    | none => none
    | some (d', v') => arun d' v' l
def acc (l : List UInt8) : Prop := arun 0 false l = some (0, true)

/-- What a byte is: the five kinds exclude each other. -/
theorem kinds (c : UInt8) : (dig c = true ∧ c ≠ 40 ∧ c ≠ 41 ∧ rk c = 0) ∨ (c = 40 ∧ dig c = false ∧ rk c = 0) ∨ (c = 41 ∧ dig c = false ∧ rk c = 0) ∨ (dig c = false ∧ c ≠ 40 ∧ c ≠ 41 ∧ 0 < rk c) ∨ (dig c = false ∧ c ≠ 40 ∧ c ≠ 41 ∧ rk c = 0) := by
  have h : ∀ n : Fin 256, (dig (UInt8.ofNat n.1) = true ∧ UInt8.ofNat n.1 ≠ 40 ∧ UInt8.ofNat n.1 ≠ 41 ∧ rk (UInt8.ofNat n.1) = 0) ∨ (UInt8.ofNat n.1 = 40 ∧ dig (UInt8.ofNat n.1) = false ∧ rk (UInt8.ofNat n.1) = 0) ∨ (UInt8.ofNat n.1 = 41 ∧ dig (UInt8.ofNat n.1) = false ∧ rk (UInt8.ofNat n.1) = 0) ∨ (dig (UInt8.ofNat n.1) = false ∧ UInt8.ofNat n.1 ≠ 40 ∧ UInt8.ofNat n.1 ≠ 41 ∧ 0 < rk (UInt8.ofNat n.1)) ∨ (dig (UInt8.ofNat n.1) = false ∧ UInt8.ofNat n.1 ≠ 40 ∧ UInt8.ofNat n.1 ≠ 41 ∧ rk (UInt8.ofNat n.1) = 0) := by decide +kernel
  have := h ⟨c.toNat, UInt8.toNat_lt c⟩
  simpa using this
theorem rk_le (c : UInt8) : rk c ≤ 3 := by unfold rk; split; omega; split; omega; split <;> omega

/-- Brackets open, less brackets shut. -/
def sg (c : UInt8) : Int := if c == 40 then 1 else if c == 41 then -1 else 0
def opn : List UInt8 → Int
  | [] => 0
  | c :: l => sg c + opn l
theorem opn_app (a b : List UInt8) : opn (a ++ b) = opn a + opn b := by
  induction a with
  | nil => simp [opn]
  | cons c a ih => simp only [List.cons_append, opn, ih]; omega
theorem sg_dig {c : UInt8} (h : dig c = true) : sg c = 0 := by
  rcases kinds c with ⟨_, h1, h2, _⟩ | ⟨_, h1, _⟩ | ⟨_, h1, _⟩ | ⟨h1, _⟩ | ⟨h1, _⟩ <;> simp_all [sg]
theorem sg_rk {c : UInt8} (h : 0 < rk c) : sg c = 0 := by
  rcases kinds c with ⟨_, _, _, h1⟩ | ⟨_, _, h1⟩ | ⟨_, _, h1⟩ | ⟨_, h1, h2, _⟩ | ⟨_, _, _, h1⟩
  · omega
  · omega
  · omega
  · simp [sg, h1, h2]
  · omega

theorem astp_dig {c : UInt8} (h : dig c = true) (d : Nat) (v : Bool) : astp d v c = if v then none else some (d, true) := by
  rcases kinds c with ⟨_, h1, h2, h3⟩ | ⟨_, h1, _⟩ | ⟨_, h1, _⟩ | ⟨h1, _⟩ | ⟨h1, _⟩
  · cases v <;> simp [astp, h, h2, h3]
  all_goals (rw [h] at h1; cases h1)
theorem astp_op {c : UInt8} (h : 0 < rk c) (d : Nat) (v : Bool) : astp d v c = if v then some (d, false) else none := by
  rcases kinds c with ⟨_, _, _, h1⟩ | ⟨_, _, h1⟩ | ⟨_, _, h1⟩ | ⟨h0, h1, h2, _⟩ | ⟨_, _, _, h1⟩
  · omega
  · omega
  · omega
  · have h3 : rk c ≠ 0 := by omega
    cases v <;> simp [astp, h0, h1, h2, h3]
  · omega
theorem astp_l (d : Nat) (v : Bool) : astp d v 40 = if v then none else some (d + 1, false) := by cases v <;> simp [astp, show dig 40 = false from by decide, show rk 40 = 0 from by decide]
theorem astp_r (d : Nat) (v : Bool) : astp d v 41 = if v then (if d == 0 then none else some (d - 1, true)) else none := by cases v <;> simp [astp, show dig 41 = false from by decide, show rk 41 = 0 from by decide]
theorem astp_no {c : UInt8} (h : dig c = false) (h1 : c ≠ 40) (h2 : c ≠ 41) (h3 : rk c = 0) (d : Nat) (v : Bool) : astp d v c = none := by simp [astp, h, h1, h2, h3]

theorem arun_app (d : Nat) (v : Bool) (a b : List UInt8) : arun d v (a ++ b) = match arun d v a with
    | none => none
    | some (d', v') => arun d' v' b := by
  induction a generalizing d v with
  | nil => rfl
  | cons c a ih =>
    simp only [List.cons_append, arun]
    cases astp d v c with
    | none => rfl
    | some p => exact ih _ _
theorem arun_opn {l : List UInt8} : ∀ {d : Nat} {v : Bool} {d' : Nat} {v' : Bool}, arun d v l = some (d', v') → (d : Int) + opn l = d' := by
  induction l with
  | nil => intro d v d' v' h; simp only [arun, Option.some.injEq, Prod.mk.injEq] at h; simp [opn, h.1]
  | cons c l ih =>
    intro d v d' v' h
    simp only [arun] at h
    have key : ∀ d1 v1, astp d v c = some (d1, v1) → (d : Int) + sg c = d1 := by
      intro d1 v1 h1
      rcases kinds c with ⟨h0, _⟩ | ⟨rfl, _⟩ | ⟨rfl, _⟩ | ⟨_, _, _, h0⟩ | ⟨h0, h2, h3, h4⟩
      · rw [astp_dig h0] at h1
        rw [sg_dig h0]
        cases v <;> simp at h1; omega
      · rw [astp_l] at h1
        have : sg 40 = 1 := by decide
        cases v <;> simp at h1; omega
      · rw [astp_r] at h1
        have : sg 41 = -1 := by decide
        cases v <;> simp at h1; omega
      · rw [astp_op h0] at h1
        rw [sg_rk h0]
        cases v <;> simp at h1; omega
      · rw [astp_no h0 h2 h3 h4] at h1; cases h1
    cases hs : astp d v c with
    | none => rw [hs] at h; cases h
    | some p =>
      obtain ⟨d1, v1⟩ := p
      rw [hs] at h
      have h1 := key d1 v1 hs
      have h2 := ih h
      simp only [opn]; omega
/-- Deeper, all is as well. -/
theorem arun_deep {l : List UInt8} (e : Nat) : ∀ {d : Nat} {v : Bool} {d' : Nat} {v' : Bool}, arun d v l = some (d', v') → arun (d + e) v l = some (d' + e, v') := by
  induction l with
  | nil => intro d v d' v' h; simp only [arun, Option.some.injEq, Prod.mk.injEq] at h; simp [arun, h.1, h.2]
  | cons c l ih =>
    intro d v d' v' h
    simp only [arun] at h ⊢
    have key : ∀ d1 v1, astp d v c = some (d1, v1) → astp (d + e) v c = some (d1 + e, v1) := by
      intro d1 v1 h1
      rcases kinds c with ⟨h0, _⟩ | ⟨rfl, _⟩ | ⟨rfl, _⟩ | ⟨_, _, _, h0⟩ | ⟨h0, h2, h3, h4⟩
      · rw [astp_dig h0] at h1 ⊢
        cases v <;> simp at h1 ⊢; simp [h1]
      · rw [astp_l] at h1 ⊢
        cases v <;> simp at h1 ⊢; exact ⟨by omega, h1.2⟩
      · rw [astp_r] at h1 ⊢
        cases v <;> simp at h1 ⊢; exact ⟨fun h => absurd h h1.1, by omega, h1.2.2⟩
      · rw [astp_op h0] at h1 ⊢
        cases v <;> simp at h1 ⊢; simp [h1]
      · rw [astp_no h0 h2 h3 h4] at h1; cases h1
    cases hs : astp d v c with
    | none => rw [hs] at h; cases h
    | some p =>
      obtain ⟨d1, v1⟩ := p
      rw [hs] at h
      rw [key d1 v1 hs]
      exact ih h
/-- Where the first bracket is shut. -/
theorem arun_close {l : List UInt8} : ∀ {e : Nat} {v : Bool}, arun (e + 1) v l = some (0, true) → ∃ m l', l = m ++ 41 :: l' ∧ arun e v m = some (0, true) ∧ arun 0 true l' = some (0, true) := by
  induction l with
  | nil => intro e v h; simp [arun] at h
  | cons c l ih =>
    intro e v h
    simp only [arun] at h
    rcases kinds c with ⟨h0, _⟩ | ⟨rfl, _⟩ | ⟨rfl, _⟩ | ⟨_, _, _, h0⟩ | ⟨h0, h2, h3, h4⟩
    · rw [astp_dig h0] at h
      cases v <;> simp at h
      obtain ⟨m, l', rfl, h1, h2⟩ := ih h
      exact ⟨c :: m, l', rfl, by simp only [arun, astp_dig h0]; exact h1, h2⟩
    · rw [astp_l] at h
      cases v <;> simp at h
      obtain ⟨m, l', rfl, h1, h2⟩ := ih h
      exact ⟨40 :: m, l', rfl, by simp only [arun, astp_l]; exact h1, h2⟩
    · rw [astp_r] at h
      cases v <;> simp at h
      cases e with
      | zero => exact ⟨[], l, rfl, rfl, h⟩
      | succ e =>
        obtain ⟨m, l', rfl, h1, h2⟩ := ih h
        exact ⟨41 :: m, l', rfl, by simp only [arun, astp_r]; simpa using h1, h2⟩
    · rw [astp_op h0] at h
      cases v <;> simp at h
      obtain ⟨m, l', rfl, h1, h2⟩ := ih h
      exact ⟨c :: m, l', rfl, by simp only [arun, astp_op h0]; exact h1, h2⟩
    · rw [astp_no h0 h2 h3 h4] at h; cases h

/-- A sum as a tree. -/
inductive T where
  | d (c : UInt8)
  | br (t : T)
  | bi (x : UInt8) (a b : T)
namespace T
def flat : T → List UInt8
  | d c => [c]
  | br t => 40 :: (flat t ++ [41])
  | bi x a b => flat a ++ x :: flat b
def post : T → List UInt8
  | d c => [c]
  | br t => post t
  | bi x a b => post a ++ post b ++ [x]
def tr : T → Nat
  | d _ => 4
  | br _ => 4
  | bi x _ _ => rk x
def wf : T → Prop
  | d c => dig c = true
  | br t => wf t
  | bi x a b => 0 < rk x ∧ wf a ∧ wf b ∧ (rk x < tr a ∨ (rk x = tr a ∧ rk x < 3)) ∧ (rk x < tr b ∨ (rk x = tr b ∧ rk x = 3))
theorem opn_flat {t : T} (h : t.wf) : opn t.flat = 0 := by
  induction t with
  | d c => simp [flat, opn, sg_dig h]
  | br t ih => simp only [flat, opn, opn_app, ih h]; decide
  | bi x a b iha ihb =>
    simp only [flat, opn_app, opn, iha h.2.1, ihb h.2.2.1, sg_rk h.1]; rfl
theorem flat_pos (t : T) : 0 < t.flat.length := by
  cases t <;> simp [flat] <;> omega
end T

/-- Where the sign is that is done last, as the document reckons it: of the first i bytes. -/
def bet (s : List UInt8) (i : Nat) : Option Nat → Bool
  | none => true
  | some j => decide (rk (bu s i) < rk (bu s j)) || (rk (bu s i) == rk (bu s j) && decide (rk (bu s i) < 3))
def cnd (s : List UInt8) (i : Nat) (at' : Option Nat) : Bool := opn (s.take (i + 1)) == 0 && (decide (0 < rk (bu s i)) && bet s i at')
def atp (s : List UInt8) : Nat → Option Nat
  | 0 => none
  | i + 1 => if cnd s i (atp s i) then some i else atp s i
def rpost : Nat → List UInt8 → Option (List UInt8)
  | 0, _ => none
  | f + 1, s => match atp s s.length with
    | none => if s.length == 1 && dig (bu s 0) then some s
        else if decide (2 < s.length) && (bu s 0 == 40 && bu s (s.length - 1) == 41) then rpost f ((s.take (s.length - 1)).drop 1) else none
    | some j => match rpost f (s.take j), rpost f (s.drop (j + 1)) with
      | some a, some b => some (a ++ b ++ [bu s j])
      | _, _ => none
theorem atp_none {s : List UInt8} {n : Nat} (h : atp s n = none) : ∀ i, i < n → opn (s.take (i + 1)) = 0 → rk (bu s i) = 0 := by
  induction n with
  | zero => intro i hi; omega
  | succ n ih =>
    intro i hi ho
    rw [atp] at h
    by_cases hc : cnd s n (atp s n) = true
    · rw [if_pos hc] at h; cases h
    · rw [if_neg hc] at h
      by_cases he : i = n
      · subst he
        rw [h] at hc
        simp only [cnd, bet, ho, beq_self_eq_true, Bool.true_and, Bool.and_true, decide_eq_true_eq] at hc
        omega
      · exact ih h i (by omega) ho
theorem atp_some {s : List UInt8} {n j : Nat} (h : atp s n = some j) : j < n ∧ opn (s.take (j + 1)) = 0 ∧ 0 < rk (bu s j) ∧
    ∀ i, i < n → opn (s.take (i + 1)) = 0 → 0 < rk (bu s i) → (i < j → rk (bu s j) < rk (bu s i) ∨ (rk (bu s i) = rk (bu s j) ∧ rk (bu s j) < 3)) ∧ (j < i → rk (bu s j) < rk (bu s i) ∨ (rk (bu s i) = rk (bu s j) ∧ rk (bu s j) = 3)) := by
  induction n generalizing j with
  | zero => cases h
  | succ n ih =>
    rw [atp] at h
    have h3 := rk_le
    by_cases hc : cnd s n (atp s n) = true
    · rw [if_pos hc] at h
      obtain rfl : n = j := by injection h
      simp only [cnd, Bool.and_eq_true, beq_iff_eq, decide_eq_true_eq] at hc
      refine ⟨by omega, hc.1, hc.2.1, fun i hi ho hr => ⟨fun hlt => ?_, fun hlt => by omega⟩⟩
      have hm := hc.2.2
      cases hp : atp s n with
      | none => exact absurd (atp_none hp i hlt ho) (by omega)
      | some j =>
        rw [hp] at hm
        simp only [bet, Bool.or_eq_true, Bool.and_eq_true, decide_eq_true_eq, beq_iff_eq] at hm
        obtain ⟨q1, q2, q3, q4⟩ := ih hp
        have h5 := q4 i hlt ho hr
        have hj3 := h3 (bu s j)
        have hi3 := h3 (bu s i)
        rcases Nat.lt_trichotomy i j with hij | hij | hij
        · have := h5.1 hij; omega
        · subst hij; omega
        · have := h5.2 hij; omega
    · rw [if_neg hc] at h
      obtain ⟨q1, q2, q3, q4⟩ := ih h
      refine ⟨by omega, q2, q3, fun i hi ho hr => ?_⟩
      by_cases he : i = n
      · subst he
        rw [h] at hc
        simp only [cnd, bet, ho, beq_self_eq_true, Bool.true_and, Bool.and_eq_true, Bool.or_eq_true, decide_eq_true_eq, beq_iff_eq, hr, true_and, not_or, not_and] at hc
        have hj3 := h3 (bu s j)
        have hi3 := h3 (bu s i)
        exact ⟨fun h => by omega, fun _ => by omega⟩
      · exact q4 i (by omega) ho hr

theorem op_at (t : T) (rest : List UInt8) (h : t.wf) : t.tr < 4 → ∃ i, i < t.flat.length ∧ opn ((t.flat ++ rest).take (i + 1)) = 0 ∧ rk (bu (t.flat ++ rest) i) = t.tr := by
  intro ht
  cases t with
  | d c => simp [T.tr] at ht
  | br t => simp [T.tr] at ht
  | bi x a b =>
    have e1 : (T.bi x a b).flat ++ rest = a.flat ++ (x :: (b.flat ++ rest)) := by simp [T.flat]
    refine ⟨a.flat.length, by simp only [T.flat, List.length_append, List.length_cons]; omega, ?_, ?_⟩
    · rw [e1, List.take_length_add_append]
      simp [opn_app, opn, T.opn_flat h.2.1, sg_rk h.1]
    · rw [e1]
      unfold bu
      rw [List.getElem?_append_right (Nat.le_refl _)]
      simp [T.tr]
theorem tr_le {t : T} (h : t.wf) : t.tr ≤ 4 := by
  cases t with
  | d c => simp [T.tr]
  | br t => simp [T.tr]
  | bi x a b => have := rk_le x; simp only [T.tr]; omega

/-- What ends well is a tree, and the document reads it so. -/
theorem acc_tree : ∀ (f : Nat) (s : List UInt8), acc s → s.length < f → ∃ t : T, t.wf ∧ t.flat = s ∧ rpost f s = some t.post := by
  intro f
  induction f with
  | zero => intro s _ h; omega
  | succ f ih =>
    intro s ha hf
    unfold acc at ha
    rw [rpost]
    cases hat : atp s s.length with
    | none =>
      have hn := atp_none hat
      cases s with
      | nil => simp [arun] at ha
      | cons c l =>
        simp only [arun] at ha
        have hnx : ∀ (m : List UInt8) (x : UInt8) (l' : List UInt8), c :: l = m ++ x :: l' → opn m = 0 → 0 < rk x → False := by
          intro m x l' e hm hx
          have h1 := hn m.length (by rw [e]; simp) (by rw [e, List.take_length_add_append]; simp [opn_app, hm, opn, sg_rk hx])
          have h2 : bu (c :: l) m.length = x := by rw [e]; unfold bu; rw [List.getElem?_append_right (Nat.le_refl _)]; simp
          rw [h2] at h1; omega
        have htail : ∀ (m l' : List UInt8), c :: l = m ++ l' → opn m = 0 → arun 0 true l' = some (0, true) → l' = [] := by
          intro m l' e hm hr
          cases l' with
          | nil => rfl
          | cons x l' =>
            simp only [arun] at hr
            rcases kinds x with ⟨h0, _⟩ | ⟨rfl, _⟩ | ⟨rfl, _⟩ | ⟨_, _, _, h0⟩ | ⟨h0, h2, h3, h4⟩
            · simp [astp_dig h0] at hr
            · simp [astp_l] at hr
            · simp [astp_r] at hr
            · exact (hnx m x l' e hm h0).elim
            · simp [astp_no h0 h2 h3 h4] at hr
        rcases kinds c with ⟨h0, _⟩ | ⟨rfl, _⟩ | ⟨rfl, _⟩ | ⟨_, _, _, h0⟩ | ⟨h0, h2, h3, h4⟩
        · rw [astp_dig h0] at ha
          have hl := htail [c] l rfl (by simp [opn, sg_dig h0]) (by simpa using ha)
          subst hl
          have h1 : bu [c] 0 = c := rfl
          exact ⟨.d c, h0, rfl, by simp [h1, h0, T.post]⟩
        · rw [astp_l] at ha
          simp only [Bool.false_eq_true, if_false] at ha
          obtain ⟨m, l', rfl, h1, h2⟩ := arun_close ha
          have ho := arun_opn h1
          have hz : opn (40 :: (m ++ [41])) = 0 := by
            have q1 : sg 40 = 1 := by decide
            have q2 : sg 41 = -1 := by decide
            simp only [opn, opn_app]
            omega
          have hl := htail (40 :: (m ++ [41])) l' (by simp) hz h2
          subst hl
          have hm : m ≠ [] := by intro e; subst e; simp [arun] at h1
          have hmp : 0 < m.length := List.length_pos_iff.2 hm
          obtain ⟨t, hw, hfl, hp⟩ := ih m h1 (by simp at hf; omega)
          refine ⟨.br t, hw, by rw [T.flat, hfl], ?_⟩
          have e1 : (40 :: (m ++ [41]) : List UInt8).length = m.length + 2 := by simp
          have e2 : bu (40 :: (m ++ [41])) 0 = 40 := rfl
          have e3 : bu (40 :: (m ++ [41])) (m.length + 1) = 41 := by unfold bu; simp
          have e4 : ((40 :: (m ++ [41]) : List UInt8).take (m.length + 1)).drop 1 = m := by simp
          simp only [e1, show m.length + 2 - 1 = m.length + 1 by omega, e2, e3, e4]
          have e5 : (m.length + 2 == 1) = false := by simp
          have e6 : decide (2 < m.length + 2) = true := by simp; omega
          rw [e5, e6]
          exact hp
        · simp [astp_r] at ha
        · simp [astp_op h0] at ha
        · simp [astp_no h0 h2 h3 h4] at ha
    | some j =>
      obtain ⟨hj, ho, hr, hall⟩ := atp_some hat
      have hsp : s = s.take j ++ bu s j :: s.drop (j + 1) := by rw [← drop_bu hj, List.take_append_drop]
      have hoA : opn (s.take j) = 0 := by
        rw [take_succ_bu hj, opn_app] at ho
        simp only [opn, sg_rk hr] at ho
        omega
      rw [hsp, arun_app] at ha
      cases hA : arun 0 false (s.take j) with
      | none => rw [hA] at ha; cases ha
      | some p =>
        obtain ⟨d, v⟩ := p
        have hd := arun_opn hA
        obtain rfl : d = 0 := by omega
        rw [hA] at ha
        simp only [arun, astp_op hr] at ha
        cases v with
        | false => simp at ha
        | true =>
          simp only [if_true] at ha
          obtain ⟨tA, wA, fA, pA⟩ := ih (s.take j) hA (by rw [List.length_take]; omega)
          obtain ⟨tB, wB, fB, pB⟩ := ih (s.drop (j + 1)) ha (by rw [List.length_drop]; omega)
          refine ⟨.bi (bu s j) tA tB, ⟨hr, wA, wB, ?_, ?_⟩, ?_, ?_⟩
          · by_cases h4 : tA.tr < 4
            · obtain ⟨i, hi, hio, hir⟩ := op_at tA (bu s j :: s.drop (j + 1)) wA h4
              rw [fA, ← hsp] at hio hir
              rw [fA, List.length_take] at hi
              have hpos : 0 < tA.tr := by
                cases tA with
                | d c => simp [T.tr]
                | br t => simp [T.tr]
                | bi x a b => exact wA.1
              have := (hall i (by omega) hio (by omega)).1 (by omega)
              omega
            · have := rk_le (bu s j); omega
          · by_cases h4 : tB.tr < 4
            · obtain ⟨i, hi, hio, hir⟩ := op_at tB [] wB h4
              rw [List.append_nil, fB] at hio hir
              rw [fB, List.length_drop] at hi
              have hpos : 0 < tB.tr := by
                cases tB with
                | d c => simp [T.tr]
                | br t => simp [T.tr]
                | bi x a b => exact wB.1
              have e1 : s.take (j + 1 + i + 1) = s.take (j + 1) ++ (s.drop (j + 1)).take (i + 1) := by
                rw [show j + 1 + i + 1 = j + 1 + (i + 1) by omega, List.take_add]
              rw [bu_drop] at hir
              have := (hall (j + 1 + i) (by omega) (by rw [e1, opn_app, ho, hio]; rfl) (by omega)).2 (by omega)
              omega
            · have := rk_le (bu s j); omega
          · rw [T.flat, fA, fB]; exact hsp.symm
          · simp only [pA, pB, T.post]

theorem acc_of_rpost : ∀ (f : Nat) (s p : List UInt8), rpost f s = some p → acc s := by
  intro f
  induction f with
  | zero => intro s p h; cases h
  | succ f ih =>
    intro s p h
    rw [rpost] at h
    cases hat : atp s s.length with
    | none =>
      rw [hat] at h
      simp only at h
      split at h
      · rename_i h1
        simp only [Bool.and_eq_true, beq_iff_eq] at h1
        obtain ⟨c, rfl⟩ : ∃ c, s = [c] := List.length_eq_one_iff.1 h1.1
        have h2 : dig c = true := h1.2
        simp [acc, arun, astp_dig h2]
      · split at h
        · rename_i h1
          simp only [Bool.and_eq_true, beq_iff_eq, decide_eq_true_eq] at h1
          obtain ⟨h2, h3, h4⟩ := h1
          have hm := ih _ _ h
          have hs : s = 40 :: ((s.take (s.length - 1)).drop 1 ++ [41]) := by
            have e1 : s = s.take (s.length - 1) ++ [41] := by
              have := take_succ_bu (l := s) (k := s.length - 1) (by omega)
              rw [h4, show s.length - 1 + 1 = s.length by omega, List.take_length] at this
              exact this
            have e2 : s.take (s.length - 1) = 40 :: (s.take (s.length - 1)).drop 1 := by
              have := drop_bu (l := s.take (s.length - 1)) (k := 0) (by rw [List.length_take]; omega)
              rw [bu_take (by omega), h3] at this
              simpa using this
            rw [e2] at e1
            simpa using e1
          generalize (s.take (s.length - 1)).drop 1 = m at hm hs
          subst hs
          unfold acc at hm ⊢
          simp only [arun, astp_l]
          have := arun_deep 1 hm
          simp only [Bool.false_eq_true, if_false]
          rw [arun_app, this]
          simp [arun, astp_r]
        · cases h
    | some j =>
      rw [hat] at h
      obtain ⟨hj, ho, hr, hall⟩ := atp_some hat
      have hsp : s = s.take j ++ bu s j :: s.drop (j + 1) := by rw [← drop_bu hj, List.take_append_drop]
      simp only at h
      cases h1 : rpost f (s.take j) with
      | none => rw [h1] at h; cases h
      | some a =>
        cases h2 : rpost f (s.drop (j + 1)) with
        | none => rw [h1, h2] at h; cases h
        | some b =>
          have q1 := ih _ _ h1
          have q2 := ih _ _ h2
          unfold acc at *
          rw [hsp, arun_app, q1]
          simp only [arun, astp_op hr]
          exact q2
end Go.Proofs.YtehecbfgdpaemaaDoor.YardM
