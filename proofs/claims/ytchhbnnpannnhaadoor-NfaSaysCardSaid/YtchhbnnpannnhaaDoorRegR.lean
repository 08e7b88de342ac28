/- The document's reading of a pattern, in plain Lean, beside the program's: they read the same. And a tree's signs, in order. No condition. -/
import Derived.Test.YtchhbnnpannnhaaDoorRegM
namespace Go.Proofs.YtchhbnnpannnhaaDoor
set_option linter.unusedVariables false

/-- The document's patterns. -/
inductive Rt where
  | emp
  | sgn (c : UInt8)
  | alt (l r : Rt)
  | seq (l r : Rt)
  | str (l : Rt)
def starsR : Rt → List UInt8 → Rt × List UInt8
  | m, [] => (m, [])
  | m, c :: s => if c = 42 then starsR (.str m) s else (m, c :: s)
def addR : Option Rt → Rt → Rt
  | none, m => m
  | some n, m => .seq n m
abbrev RRes := Option (Rt × List UInt8)
abbrev RRd := List UInt8 → RRes
def rowRL (O : RRd) : Nat → Option Rt → List UInt8 → RRes
  | 0, _, _ => none
  | _ + 1, n, [] => some (n.getD .emp, [])
  | f + 1, n, c :: r => if c = 124 ∨ c = 41 then some (n.getD .emp, c :: r) else
    match O (c :: r) with
    | none => none
    | some (m, s2) => rowRL O f (some (addR n (starsR m s2).1)) (starsR m s2).2
def eitRL (R : RRd) : Nat → Rt → List UInt8 → RRes
  | 0, _, _ => none
  | _ + 1, n, [] => some (n, [])
  | f + 1, n, c :: r => if c = 124 then
      match R r with
      | none => none
      | some (m, s2) => eitRL R f (.alt n m) s2
    else some (n, c :: r)
def oneR (E : RRd) : RRd
  | [] => none
  | c :: s => if 97 ≤ c ∧ c ≤ 122 then some (.sgn c, s)
    else if c = 40 then
      match E s with
      | none => none
      | some (_, []) => none
      | some (n, d :: s2) => if d = 41 then some (n, s2) else none
    else none
theorem oneR_cons (E : RRd) (c : UInt8) (s : List UInt8) : oneR E (c :: s) = if 97 ≤ c ∧ c ≤ 122 then some (.sgn c, s)
    else if c = 40 then
      match E s with
      | none => none
      | some (_, []) => none
      | some (n, d :: s2) => if d = 41 then some (n, s2) else none
    else none := rfl
def rowR (E : RRd) : RRd := fun s => rowRL (oneR E) (s.length + 1) none s
def eitR (E : RRd) : RRd := fun s =>
  match rowR E s with
  | none => none
  | some (n, s2) => eitRL (rowR E) (s2.length + 1) n s2
def parR : Nat → RRd
  | 0 => fun _ => none
  | n + 1 => eitR (parR n)
/-- A pattern's tree, the document's way. -/
def rdR (s : List UInt8) : Option Rt :=
  match parR (s.length + 1) s with
  | some (t, []) => some t
  | _ => none

/-- Two trees of one pattern. -/
inductive Rel : Rt → Pt → Prop
  | emp : Rel .emp .emp
  | empS : Rel .emp (.str .non)
  | sgn (c : UInt8) (k : Nat) : Rel (.sgn c) (.sgn c k)
  | alt {a b : Rt} {x y : Pt} : Rel a x → Rel b y → Rel (.alt a b) (.alt x y)
  | seq {a b : Rt} {x y : Pt} : Rel a x → Rel b y → Rel (.seq a b) (.seq x y)
  | str {a : Rt} {x : Pt} : Rel a x → Rel (.str a) (.str x)
  | strS {a : Rt} {x : Pt} : Rel a (.str x) → Rel (.str a) (.str x)
theorem Rel.star {a : Rt} {x : Pt} (h : Rel a x) : Rel (.str a) (addStar x) := by
  cases x with
  | str l => exact .strS h
  | _ => exact .str h
theorem Rel.fix {a : Rt} {x : Pt} (h : Rel a x) : Rel a (fixE x) := by
  cases x with
  | emp => cases h; exact .empS
  | _ => exact h
theorem fix_ne (x : Pt) : fixE x ≠ .emp := by cases x <;> simp [fixE]
theorem addStar_ne (x : Pt) : addStar x ≠ .emp := by cases x <;> simp [addStar]
theorem stars_rel : ∀ (s : List UInt8) (x : Pt) (a : Rt), Rel a x → x ≠ .emp → (starsR a s).2 = (stars x s).2 ∧ Rel (starsR a s).1 (stars x s).1 ∧ (stars x s).1 ≠ .emp
  | [], x, a, h, hx => ⟨rfl, h, hx⟩
  | c :: s, x, a, h, hx => by
    unfold starsR stars
    by_cases e : c = 42
    · rw [if_pos e, if_pos e]; exact stars_rel s _ _ h.star (addStar_ne x)
    · rw [if_neg e, if_neg e]; exact ⟨rfl, h, hx⟩
/-- Both read alike. -/
def LS1 (O : PRd) (O' : RRd) : Prop := ∀ s k, (O s k = none → O' s = none) ∧ (∀ t r k', O s k = some (t, r, k') → ∃ rt, O' s = some (rt, r) ∧ Rel rt t ∧ t ≠ .emp)
def LSR (O : PRd) (O' : RRd) : Prop := ∀ s k, (O s k = none → O' s = none) ∧ (∀ t r k', O s k = some (t, r, k') → ∃ rt, O' s = some (rt, r) ∧ Rel rt t ∧ (r = [] ∨ r.head? = some 124 ∨ r.head? = some 41))
def LSE (O : PRd) (O' : RRd) : Prop := ∀ s k, (O s k = none → O' s = none) ∧ (∀ t r k', O s k = some (t, r, k') → ∃ rt, O' s = some (rt, r) ∧ Rel rt t ∧ (r = [] ∨ r.head? = some 41))
theorem LSE.one {E : PRd} {E' : RRd} (h : LSE E E') : LS1 (oneE E) (oneR E') := by
  intro s k
  cases s with
  | nil => exact ⟨fun _ => rfl, fun t r k' e => by simp [oneE] at e⟩
  | cons c s =>
    rw [oneE_cons, oneR_cons]
    by_cases hc : 97 ≤ c ∧ c ≤ 122
    · rw [if_pos hc, if_pos hc]
      refine ⟨fun e => (by cases e), fun t r k' e => ?_⟩
      injection e with e; injection e with e1 e2; injection e2 with e2 e3; subst e1 e2 e3
      exact ⟨_, rfl, .sgn c k, by simp⟩
    · rw [if_neg hc, if_neg hc]
      by_cases hc2 : c = 40
      · rw [if_pos hc2, if_pos hc2]
        obtain ⟨h1, h2⟩ := h s k
        cases hq : E s k with
        | none => rw [h1 hq]; exact ⟨fun _ => rfl, fun _ _ _ e => by cases e⟩
        | some p =>
          obtain ⟨n, s1, k1⟩ := p
          obtain ⟨rt, e1, hr, hd⟩ := h2 _ _ _ hq
          rw [e1]
          cases s1 with
          | nil => exact ⟨fun _ => rfl, fun _ _ _ e => by cases e⟩
          | cons d s2 =>
            have hd41 : d = 41 := by
              rcases hd with hd | hd
              · cases hd
              · injection hd
            subst hd41
            refine ⟨fun e => (by cases e), fun t r k' e => ?_⟩
            injection e with e; injection e with e1 e2; injection e2 with e2 e3; subst e1 e2 e3
            exact ⟨rt, rfl, hr.fix, fix_ne n⟩
      · rw [if_neg hc2, if_neg hc2]; exact ⟨fun _ => rfl, fun _ _ _ e => by cases e⟩
/-- What a row holds so far, on both sides. -/
def RowRel (n : Option Rt) (x : Pt) : Prop := match n with
  | none => x = .emp
  | some a => Rel a x ∧ x ≠ .emp
theorem RowRel.getD {n : Option Rt} {x : Pt} (h : RowRel n x) : Rel (n.getD .emp) x := by
  cases n with
  | none => rw [show x = .emp from h]; exact .emp
  | some a => exact h.1
theorem RowRel.add {n : Option Rt} {x : Pt} (h : RowRel n x) {a : Rt} {y : Pt} (h2 : Rel a y) (h3 : y ≠ .emp) : RowRel (some (addR n a)) (addRow x y) := by
  cases n with
  | none => rw [show x = .emp from h]; exact ⟨h2, h3⟩
  | some b =>
    obtain ⟨h4, h5⟩ := h
    cases x with
    | emp => exact absurd rfl h5
    | _ => exact ⟨.seq h4 h2, by simp [addRow]⟩
theorem rowL_rel {O : PRd} {O' : RRd} (h : LS1 O O') : ∀ (f : Nat) (n : Option Rt) (x : Pt) (s : List UInt8) (k : Nat), RowRel n x →
    (rowL O f x s k = none → rowRL O' f n s = none) ∧ (∀ t r k', rowL O f x s k = some (t, r, k') → ∃ rt, rowRL O' f n s = some (rt, r) ∧ Rel rt t ∧ (r = [] ∨ r.head? = some 124 ∨ r.head? = some 41))
  | 0, n, x, s, k, hn => ⟨fun _ => rfl, fun t r k' e => by simp [rowL] at e⟩
  | f + 1, n, x, [], k, hn => by
    unfold rowL rowRL
    refine ⟨fun e => (by cases e), fun t r k' e => ?_⟩
    injection e with e; injection e with e1 e2; injection e2 with e2 e3; subst e1 e2 e3
    exact ⟨_, rfl, hn.getD, .inl rfl⟩
  | f + 1, n, x, c :: s, k, hn => by
    unfold rowL rowRL
    by_cases hc : c = 124 ∨ c = 41
    · rw [if_pos hc, if_pos hc]
      refine ⟨fun e => (by cases e), fun t r k' e => ?_⟩
      injection e with e; injection e with e1 e2; injection e2 with e2 e3; subst e1 e2 e3
      refine ⟨_, rfl, hn.getD, .inr ?_⟩
      rcases hc with rfl | rfl
      · exact .inl rfl
      · exact .inr rfl
    · rw [if_neg hc, if_neg hc]
      obtain ⟨h1, h2⟩ := h (c :: s) k
      cases hq : O (c :: s) k with
      | none => rw [h1 hq]; exact ⟨fun _ => rfl, fun _ _ _ e => by cases e⟩
      | some p =>
        obtain ⟨m, s2, k2⟩ := p
        obtain ⟨rt, e1, hr, hne⟩ := h2 _ _ _ hq
        rw [e1]
        simp only []
        obtain ⟨q1, q2, q3⟩ := stars_rel s2 m rt hr hne
        rw [q1]
        exact rowL_rel h f _ _ _ _ (hn.add q2 q3)
theorem LSE.row {E : PRd} {E' : RRd} (h : LSE E E') : LSR (rowE E) (rowR E') := fun s k => rowL_rel h.one _ _ _ _ _ rfl
theorem eitL_rel {R : PRd} {R' : RRd} (h : LSR R R') : ∀ (f : Nat) (a : Rt) (x : Pt) (s : List UInt8) (k : Nat), Rel a x → (s = [] ∨ s.head? = some 124 ∨ s.head? = some 41) →
    (eitL R f x s k = none → eitRL R' f a s = none) ∧ (∀ t r k', eitL R f x s k = some (t, r, k') → ∃ rt, eitRL R' f a s = some (rt, r) ∧ Rel rt t ∧ (r = [] ∨ r.head? = some 41))
  | 0, n, x, s, k, hn, hs => ⟨fun _ => rfl, fun t r k' e => by simp [eitL] at e⟩
  | f + 1, n, x, [], k, hn, hs => by
    unfold eitL eitRL
    refine ⟨fun e => (by cases e), fun t r k' e => ?_⟩
    injection e with e; injection e with e1 e2; injection e2 with e2 e3; subst e1 e2 e3
    exact ⟨_, rfl, hn, .inl rfl⟩
  | f + 1, n, x, c :: s, k, hn, hs => by
    unfold eitL eitRL
    by_cases hc : c = 124
    · rw [if_pos hc, if_pos hc]
      obtain ⟨h1, h2⟩ := h s k
      cases hq : R s k with
      | none => rw [h1 hq]; exact ⟨fun _ => rfl, fun _ _ _ e => by cases e⟩
      | some p =>
        obtain ⟨m, s2, k2⟩ := p
        obtain ⟨rt, e1, hr, hne⟩ := h2 _ _ _ hq
        rw [e1]
        exact eitL_rel h f _ _ _ _ (.alt hn hr) hne
    · rw [if_neg hc, if_neg hc]
      refine ⟨fun e => (by cases e), fun t r k' e => ?_⟩
      injection e with e; injection e with e1 e2; injection e2 with e2 e3; subst e1 e2 e3
      refine ⟨_, rfl, hn, .inr ?_⟩
      rcases hs with hs | hs | hs
      · cases hs
      · injection hs with hs; exact absurd hs hc
      · exact hs
theorem LSE.eit {E : PRd} {E' : RRd} (h : LSE E E') : LSE (eitE E) (eitR E') := by
  intro s k
  unfold eitE eitR
  obtain ⟨h1, h2⟩ := h.row s k
  cases hq : rowE E s k with
  | none => rw [h1 hq]; exact ⟨fun _ => rfl, fun _ _ _ e => by cases e⟩
  | some p =>
    obtain ⟨m, s2, k2⟩ := p
    obtain ⟨rt, e1, hr, hne⟩ := h2 _ _ _ hq
    rw [e1]
    exact eitL_rel h.row _ _ _ _ _ hr hne
theorem lse_par : ∀ n, LSE (parE n) (parR n)
  | 0 => fun _ _ => ⟨fun _ => rfl, fun _ _ _ e => by cases e⟩
  | n + 1 => (lse_par n).eit
/-- Both read the same patterns. -/
theorem rd_par (s : List UInt8) : match par s, rdR s with
    | none, none => True
    | some t, some rt => Rel rt t
    | _, _ => False := by
  obtain ⟨h1, h2⟩ := lse_par (s.length + 1) s 0
  unfold par rdR
  cases hq : parE (s.length + 1) s 0 with
  | none => rw [h1 hq]; trivial
  | some p =>
    obtain ⟨t, r, k⟩ := p
    obtain ⟨rt, e1, hr, _⟩ := h2 _ _ _ hq
    rw [e1]
    cases r with
    | nil => exact hr
    | cons c r => trivial
theorem par_none {s : List UInt8} (h : rdR s = none) : par s = none := by
  have := rd_par s
  rw [h] at this
  cases hp : par s with
  | none => rfl
  | some t => rw [hp] at this; exact this.elim
theorem rd_some {s : List UInt8} {t : Pt} (h : par s = some t) : ∃ rt, rdR s = some rt ∧ Rel rt t := by
  have := rd_par s
  rw [h] at this
  cases hp : rdR s with
  | none => rw [hp] at this; exact this.elim
  | some rt => rw [hp] at this; exact ⟨rt, rfl, this⟩
theorem rd_none {s : List UInt8} (h : par s = none) : rdR s = none := by
  have := rd_par s
  rw [h] at this
  cases hp : rdR s with
  | none => rfl
  | some t => rw [hp] at this; exact this.elim

/-! ### A tree's signs, in order, and their numbers -/
def isLo (c : UInt8) : Bool := decide (97 ≤ c ∧ c ≤ 122)
def lets (s : List UInt8) : List UInt8 := s.filter isLo
def leaves : Pt → List UInt8
  | .sgn c _ => [c]
  | .alt l r => leaves l ++ leaves r
  | .seq l r => leaves l ++ leaves r
  | .str l => leaves l
  | _ => []
/-- The signs of a tree are numbered from a on, up to b. -/
def Num : Pt → Nat → Nat → Prop
  | .sgn _ k, a, b => k = a ∧ b = a + 1
  | .alt l r, a, b => ∃ m, Num l a m ∧ Num r m b
  | .seq l r, a, b => ∃ m, Num l a m ∧ Num r m b
  | .str l, a, b => Num l a b
  | _, a, b => b = a
theorem Num.len : ∀ {t : Pt} {a b : Nat}, Num t a b → b = a + (leaves t).length
  | .non, a, b, h => h
  | .emp, a, b, h => h
  | .sgn _ _, a, b, h => h.2
  | .alt l r, a, b, h => by
    obtain ⟨m, h1, h2⟩ := h
    have := Num.len h1; have := Num.len h2
    simp [leaves]; omega
  | .seq l r, a, b, h => by
    obtain ⟨m, h1, h2⟩ := h
    have := Num.len h1; have := Num.len h2
    simp [leaves]; omega
  | .str l, a, b, h => by have := Num.len (t := l) h; simpa [leaves] using this
def Lv (E : PRd) : Prop := ∀ s k t r k', E s k = some (t, r, k') → ∃ u, s = u ++ r ∧ leaves t = lets u ∧ Num t k k'
theorem stars_lv : ∀ (s : List UInt8) (m : Pt) (a b : Nat), Num m a b → ∃ u, s = u ++ (stars m s).2 ∧ lets u = [] ∧ leaves (stars m s).1 = leaves m ∧ Num (stars m s).1 a b
  | [], m, a, b, h => ⟨[], rfl, rfl, rfl, h⟩
  | c :: s, m, a, b, h => by
    unfold stars
    by_cases e : c = 42
    · rw [if_pos e]
      have h1 : leaves (addStar m) = leaves m := by cases m <;> rfl
      have h2 : Num (addStar m) a b := by cases m <;> exact h
      obtain ⟨u, q1, q2, q3, q4⟩ := stars_lv s _ a b h2
      refine ⟨c :: u, by rw [List.cons_append, ← q1], ?_, q3.trans h1, q4⟩
      subst e
      rw [lets, List.filter_cons_of_neg (by decide)]
      exact q2
    · rw [if_neg e]; exact ⟨[], rfl, rfl, rfl, h⟩
theorem lets_app (a b : List UInt8) : lets (a ++ b) = lets a ++ lets b := by unfold lets; rw [List.filter_append]
theorem lets_no {c : UInt8} (h : ¬ (97 ≤ c ∧ c ≤ 122)) (l : List UInt8) : lets (c :: l) = lets l := by
  unfold lets; rw [List.filter_cons_of_neg]; unfold isLo; simpa using h
theorem Lv.one {E : PRd} (h : Lv E) (hd : ∀ s k t r k', E s k = some (t, r, k') → r = [] ∨ r.head? = some 41) : Lv (oneE E) := by
  intro s k t r k' e
  cases s with
  | nil => simp [oneE] at e
  | cons c s =>
    rw [oneE_cons] at e
    by_cases hc : 97 ≤ c ∧ c ≤ 122
    · rw [if_pos hc] at e
      injection e with e; injection e with e1 e2; injection e2 with e2 e3; subst e1 e2 e3
      refine ⟨[c], rfl, ?_, rfl, rfl⟩
      unfold lets
      rw [List.filter_cons_of_pos (by unfold isLo; simpa using hc)]; rfl
    · rw [if_neg hc] at e
      by_cases hc2 : c = 40
      · rw [if_pos hc2] at e
        cases hq : E s k with
        | none => rw [hq] at e; cases e
        | some p =>
          obtain ⟨n, s1, k1⟩ := p
          rw [hq] at e
          obtain ⟨u, q1, q2, q3⟩ := h _ _ _ _ _ hq
          cases s1 with
          | nil => cases e
          | cons d s2 =>
            injection e with e; injection e with e1 e2; injection e2 with e2 e3; subst e1 e2 e3
            have hd41 : d = 41 := by
              rcases hd _ _ _ _ _ hq with hd | hd
              · cases hd
              · injection hd
            subst hd41 hc2
            refine ⟨40 :: (u ++ [41]), by rw [q1]; simp, ?_, ?_⟩
            · rw [lets_no (by decide), lets_app, ← q2, show lets [41] = [] from rfl, List.append_nil]
              cases n <;> rfl
            · cases n <;> exact q3
      · rw [if_neg hc2] at e; cases e
theorem rowL_lv {O : PRd} (h : Lv O) (hne : ∀ s k t r k', O s k = some (t, r, k') → t ≠ .emp) : ∀ (f : Nat) (n : Pt) (s : List UInt8) (k : Nat) (t : Pt) (r : List UInt8) (k' : Nat), rowL O f n s k = some (t, r, k') → ∀ a, Num n a k →
    ∃ u, s = u ++ r ∧ leaves t = leaves n ++ lets u ∧ Num t a k'
  | 0, n, s, k, t, r, k', e, a, hn => by simp [rowL] at e
  | f + 1, n, [], k, t, r, k', e, a, hn => by
    unfold rowL at e; injection e with e; injection e with e1 e2; injection e2 with e2 e3; subst e1 e2 e3
    exact ⟨[], rfl, by simp [lets], hn⟩
  | f + 1, n, c :: s, k, t, r, k', e, a, hn => by
    unfold rowL at e
    split at e
    · injection e with e; injection e with e1 e2; injection e2 with e2 e3; subst e1 e2 e3
      exact ⟨[], rfl, by simp [lets], hn⟩
    · cases hq : O (c :: s) k with
      | none => rw [hq] at e; cases e
      | some p =>
        obtain ⟨m, s2, k2⟩ := p
        rw [hq] at e
        obtain ⟨u, q1, q2, q3⟩ := h _ _ _ _ _ hq
        obtain ⟨v, p1, p2, p3, p4⟩ := stars_lv s2 m k k2 q3
        have hN : Num (addRow n (stars m s2).1) a k2 ∧ leaves (addRow n (stars m s2).1) = leaves n ++ lets u := by
          cases n with
          | emp =>
            have : k = a := hn
            subst this
            exact ⟨p4, by show leaves (stars m s2).1 = _; rw [p3, q2]; rfl⟩
          | _ => exact ⟨⟨k, hn, p4⟩, by simp only [addRow, leaves]; rw [p3, q2]⟩
        obtain ⟨x, z1, z2, z3⟩ := rowL_lv h hne f _ _ _ _ _ _ e a hN.1
        refine ⟨u ++ v ++ x, ?_, ?_, z3⟩
        · rw [q1]
          conv => lhs; rw [p1, z1]
          simp
        · rw [z2, hN.2, lets_app, lets_app, p2]; simp
theorem one_ne (E : PRd) : ∀ s k t r k', oneE E s k = some (t, r, k') → t ≠ .emp := by
  intro s k t r k' e
  cases s with
  | nil => simp [oneE] at e
  | cons c s =>
    rw [oneE_cons] at e
    split at e
    · injection e with e; injection e with e1 e2; subst e1; simp
    · split at e
      · cases hq : E s k with
        | none => rw [hq] at e; cases e
        | some p =>
          obtain ⟨n, s1, k1⟩ := p
          rw [hq] at e
          cases s1 with
          | nil => cases e
          | cons d s2 =>
            injection e with e; injection e with e1 e2; subst e1; exact fix_ne n
      · cases e
theorem Lv.row {E : PRd} (h : Lv E) (hd : ∀ s k t r k', E s k = some (t, r, k') → r = [] ∨ r.head? = some 41) : Lv (rowE E) := by
  intro s k t r k' e
  obtain ⟨u, q1, q2, q3⟩ := rowL_lv (h.one hd) (one_ne E) _ _ _ _ _ _ _ e k rfl
  exact ⟨u, q1, by rw [q2]; rfl, q3⟩
theorem eitL_lv {R : PRd} (h : Lv R) : ∀ (f : Nat) (n : Pt) (s : List UInt8) (k : Nat) (t : Pt) (r : List UInt8) (k' : Nat), eitL R f n s k = some (t, r, k') → ∀ a, Num n a k →
    ∃ u, s = u ++ r ∧ leaves t = leaves n ++ lets u ∧ Num t a k'
  | 0, n, s, k, t, r, k', e, a, hn => by simp [eitL] at e
  | f + 1, n, [], k, t, r, k', e, a, hn => by
    unfold eitL at e; injection e with e; injection e with e1 e2; injection e2 with e2 e3; subst e1 e2 e3
    exact ⟨[], rfl, by simp [lets], hn⟩
  | f + 1, n, c :: s, k, t, r, k', e, a, hn => by
    unfold eitL at e
    split at e
    · rename_i hc
      subst hc
      cases hq : R s k with
      | none => rw [hq] at e; cases e
      | some p =>
        obtain ⟨m, s2, k2⟩ := p
        rw [hq] at e
        obtain ⟨u, q1, q2, q3⟩ := h _ _ _ _ _ hq
        obtain ⟨x, z1, z2, z3⟩ := eitL_lv h f _ _ _ _ _ _ e a ⟨k, hn, q3⟩
        refine ⟨124 :: (u ++ x), ?_, ?_, z3⟩
        · rw [q1]
          conv => lhs; rw [z1]
          simp
        · rw [z2, lets_no (by decide), lets_app, ← q2]; simp [leaves]
    · injection e with e; injection e with e1 e2; injection e2 with e2 e3; subst e1 e2 e3
      exact ⟨[], rfl, by simp [lets], hn⟩
theorem Lv.eit {E : PRd} (h : Lv E) (hd : ∀ s k t r k', E s k = some (t, r, k') → r = [] ∨ r.head? = some 41) : Lv (eitE E) := by
  intro s k t r k' e
  unfold eitE at e
  cases hq : rowE E s k with
  | none => rw [hq] at e; cases e
  | some p =>
    obtain ⟨m, s2, k2⟩ := p
    rw [hq] at e
    obtain ⟨u, q1, q2, q3⟩ := h.row hd _ _ _ _ _ hq
    obtain ⟨x, z1, z2, z3⟩ := eitL_lv (h.row hd) _ _ _ _ _ _ _ e k q3
    refine ⟨u ++ x, ?_, ?_, z3⟩
    · rw [q1]
      conv => lhs; rw [z1]
      simp
    · rw [z2, q2, lets_app]
theorem hd_par (n : Nat) : ∀ s k t r k', parE n s k = some (t, r, k') → r = [] ∨ r.head? = some 41 := fun s k t r k' e => by
  obtain ⟨_, _, _, h⟩ := (lse_par n s k).2 _ _ _ e
  exact h
theorem lv_par : ∀ n, Lv (parE n)
  | 0 => fun _ _ _ _ _ e => by cases e
  | n + 1 => (lv_par n).eit (hd_par n)
/-- The signs of a pattern's tree are the pattern's letters, numbered from 0 on. -/
theorem par_leaves {s : List UInt8} {t : Pt} (h : par s = some t) : leaves t = lets s ∧ Num t 0 (lets s).length := by
  obtain ⟨k, e⟩ := par_some h
  obtain ⟨u, q1, q2, q3⟩ := lv_par _ _ _ _ _ _ e
  rw [List.append_nil] at q1
  subst q1
  have := q3.len
  rw [q2] at this
  refine ⟨q2, ?_⟩
  rw [show (lets s).length = k by omega]
  exact q3
end Go.Proofs.YtchhbnnpannnhaaDoor
