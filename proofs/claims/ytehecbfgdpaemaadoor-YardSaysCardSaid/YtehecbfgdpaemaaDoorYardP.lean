/- Plain laws of package yard: the waiting signs give the tree's signs, and what is read is the tree's value. -/
import Derived.Test.YtehecbfgdpaemaaDoorYardM
namespace Go.Proofs.YtehecbfgdpaemaaDoor.YardM
open Go.Proofs.YtehecbfgdpaemaaDoor

theorem stp_dig {c : UInt8} (h : dig c = true) (s : St) : stp s c = if s.v then none else some ⟨s.o ++ [c], s.st, true⟩ := by
  rcases kinds c with ⟨_, h1, h2, h3⟩ | ⟨_, h1, _⟩ | ⟨_, h1, _⟩ | ⟨h1, _⟩ | ⟨h1, _⟩
  · cases hv : s.v <;> simp [stp, h, h2, h3, hv]
  all_goals (rw [h] at h1; cases h1)
theorem stp_op {c : UInt8} (h : 0 < rk c) (s : St) : stp s c = if s.v then some ⟨(popK (rk c) s.o s.st).1, c :: (popK (rk c) s.o s.st).2, false⟩ else none := by
  rcases kinds c with ⟨_, _, _, h1⟩ | ⟨_, _, h1⟩ | ⟨_, _, h1⟩ | ⟨h0, h1, h2, _⟩ | ⟨_, _, _, h1⟩
  · omega
  · omega
  · omega
  · have h3 : rk c ≠ 0 := by omega
    cases hv : s.v <;> simp [stp, h0, h1, h2, h3, hv]
  · omega
theorem stp_l (s : St) : stp s 40 = if s.v then none else some ⟨s.o, 40 :: s.st, false⟩ := by cases hv : s.v <;> simp [stp, show dig 40 = false from by decide, show rk 40 = 0 from by decide, hv]
theorem stp_r (s : St) : stp s 41 = if s.v then (match (popB s.o s.st).2 with
    | [] => none
    | _ :: st => some ⟨(popB s.o s.st).1, st, true⟩) else none := by
  unfold stp
  rw [show dig 41 = false from by decide, show rk 41 = 0 from by decide]
  cases hv : s.v
  · simp
  · simp only [Bool.false_and, Bool.false_eq_true, if_false, beq_self_eq_true, Bool.and_self, if_true]
    rfl
theorem stp_no {c : UInt8} (h : dig c = false) (h1 : c ≠ 40) (h2 : c ≠ 41) (h3 : rk c = 0) (s : St) : stp s c = none := by simp [stp, h, h1, h2, h3]

/-- How many brackets wait. -/
def cb : List UInt8 → Nat
  | [] => 0
  | t :: st => (if t == 40 then 1 else 0) + cb st
theorem cb_popK {k : Nat} (hk : 0 < k) : ∀ (st o : List UInt8), cb (popK k o st).2 = cb st := by
  intro st
  induction st with
  | nil => intro o; rfl
  | cons t st ih =>
    intro o
    rw [popK]
    split
    · rename_i hc
      rw [ih]
      have : (t == 40) = false := by
        rw [beq_eq_false_iff_ne]
        intro e; subst e
        have e0 : rk 40 = 0 := by decide
        simp [e0] at hc; omega
      simp [cb, this]
    · rfl
theorem cb_popB : ∀ (st o : List UInt8), (match (popB o st).2 with | [] => cb st = 0 | _ :: st' => cb st = cb st' + 1) := by
  intro st
  induction st with
  | nil => intro o; rfl
  | cons t st ih =>
    intro o
    rw [popB]
    by_cases h : t = 40
    · subst h; simp [cb]; omega
    · have h' : (t != 40) = true := by simpa using h
      rw [if_pos h']
      have := ih (o ++ [t])
      have e : cb (t :: st) = cb st := by simp [cb, h]
      rw [e]; exact this
/-- What the code takes ends well. -/
theorem run_arun : ∀ (l : List UInt8) (s s' : St), run s l = some s' → arun (cb s.st) s.v l = some (cb s'.st, s'.v) := by
  intro l
  induction l with
  | nil => intro s s' h; simp only [run, Option.some.injEq] at h; subst h; rfl
  | cons c l ih =>
    intro s s' h
    simp only [run] at h
    simp only [arun]
    have key : ∀ s1, stp s c = some s1 → astp (cb s.st) s.v c = some (cb s1.st, s1.v) := by
      intro s1 h1
      rcases kinds c with ⟨h0, _⟩ | ⟨rfl, _⟩ | ⟨rfl, _⟩ | ⟨_, _, _, h0⟩ | ⟨h0, h2, h3, h4⟩
      · rw [stp_dig h0] at h1
        rw [astp_dig h0]
        cases hv : s.v <;> rw [hv] at h1 <;> simp at h1
        subst h1; rfl
      · rw [stp_l] at h1
        rw [astp_l]
        cases hv : s.v <;> rw [hv] at h1 <;> simp at h1
        subst h1; simp [cb]; omega
      · rw [stp_r] at h1
        rw [astp_r]
        cases hv : s.v <;> rw [hv] at h1 <;> simp at h1
        have := cb_popB s.st s.o
        split at h1
        · cases h1
        · rename_i x st e
          rw [e] at this
          simp only [Option.some.injEq] at h1
          subst h1
          simp [this]
      · rw [stp_op h0] at h1
        rw [astp_op h0]
        cases hv : s.v <;> rw [hv] at h1 <;> simp at h1
        subst h1
        have : (c == 40) = false := by
          rw [beq_eq_false_iff_ne]; intro e; subst e
          exact absurd h0 (by decide)
        simp [cb, cb_popK h0, this]
      · rw [stp_no h0 h2 h3 h4] at h1; cases h1
    cases hs : stp s c with
    | none => rw [hs] at h; cases h
    | some s1 =>
      rw [hs] at h
      rw [key s1 hs]
      exact ih s1 s' h
theorem fin_some : ∀ (st o p : List UInt8), fin o st = some p → cb st = 0 ∧ p = o ++ st := by
  intro st
  induction st with
  | nil => intro o p h; simp only [fin, Option.some.injEq] at h; simp [cb, h]
  | cons t st ih =>
    intro o p h
    rw [fin] at h
    by_cases ht : (t == 40) = true
    · rw [if_pos ht] at h; cases h
    · rw [if_neg ht] at h
      obtain ⟨h1, h2⟩ := ih _ _ h
      simp [cb, ht, h1, h2]
theorem fin_ok : ∀ (st o : List UInt8), cb st = 0 → fin o st = some (o ++ st) := by
  intro st
  induction st with
  | nil => intro o _; simp [fin]
  | cons t st ih =>
    intro o h
    rw [fin]
    by_cases ht : (t == 40) = true
    · simp [cb, ht] at h
    · rw [if_neg ht, ih _ (by simp [cb, ht] at h; exact h)]; simp
theorem acc_of_post {s p : List UInt8} (h : postM s = some p) : acc s := by
  unfold postM at h
  cases hr : run ⟨[], [], false⟩ s with
  | none => rw [hr] at h; cases h
  | some s' =>
    rw [hr] at h
    have h1 := run_arun _ _ _ hr
    simp only at h
    cases hv : s'.v with
    | false => rw [hv] at h; simp at h
    | true =>
      rw [hv] at h
      obtain ⟨h2, _⟩ := fin_some _ _ _ (by simpa using h)
      unfold acc
      rw [hv, h2] at h1
      exact h1

/-- No sign of rank k takes what waits. -/
def blk (st : List UInt8) (k : Nat) : Prop := match st with
  | [] => True
  | t :: _ => rk t < k ∨ (rk t = k ∧ k = 3)
theorem blk_mono {st : List UInt8} {k k' : Nat} (h : blk st k) (hk : k ≤ k') : blk st k' := by
  cases st with
  | nil => trivial
  | cons t st => simp only [blk] at *; omega
theorem popK_blk {k : Nat} {o st : List UInt8} (h : blk st k) : popK k o st = (o, st) := by
  cases st with
  | nil => rfl
  | cons t st =>
    simp only [blk] at h
    rw [popK, if_neg]
    simp only [Bool.or_eq_true, decide_eq_true_eq, Bool.and_eq_true, beq_iff_eq, bne_iff_ne, ne_eq]
    omega
theorem popK_all {k : Nat} : ∀ (p o st : List UInt8), (∀ x ∈ p, k < rk x ∨ (rk x = k ∧ k ≠ 3)) → popK k o (p ++ st) = popK k (o ++ p) st := by
  intro p
  induction p with
  | nil => intro o st _; simp
  | cons x p ih =>
    intro o st h
    have hx := h x (by simp)
    rw [List.cons_append, popK, if_pos, ih _ _ (fun y hy => h y (by simp [hy]))]
    · simp
    · simp only [Bool.or_eq_true, decide_eq_true_eq, Bool.and_eq_true, beq_iff_eq, bne_iff_ne, ne_eq]; exact hx
theorem popB_all : ∀ (p o st : List UInt8), (∀ x ∈ p, x ≠ 40) → popB o (p ++ 40 :: st) = (o ++ p, 40 :: st) := by
  intro p
  induction p with
  | nil => intro o st _; simp [popB]
  | cons x p ih =>
    intro o st h
    have hx : (x != 40) = true := by simpa using h x (by simp)
    rw [List.cons_append, popB, if_pos hx, ih _ _ (fun y hy => h y (by simp [hy]))]
    simp
theorem run_app (s : St) (a b : List UInt8) : run s (a ++ b) = match run s a with
    | none => none
    | some s' => run s' b := by
  induction a generalizing s with
  | nil => rfl
  | cons c a ih =>
    simp only [List.cons_append, run]
    cases stp s c with
    | none => rfl
    | some p => exact ih _
theorem rk_ne {x : UInt8} (h : 0 < rk x) : x ≠ 40 := by intro e; subst e; exact absurd h (by decide)
/-- The code on a tree. -/
theorem run_tree : ∀ (t : T), t.wf → ∀ (o st : List UInt8), blk st t.tr → ∃ p q, run ⟨o, st, false⟩ t.flat = some ⟨o ++ p, q ++ st, true⟩ ∧ p ++ q = t.post ∧ ∀ x ∈ q, t.tr ≤ rk x ∧ 0 < rk x := by
  intro t
  induction t with
  | d c =>
    intro h o st hb
    exact ⟨[c], [], by simp [T.flat, run, stp_dig h], rfl, by simp⟩
  | br t ih =>
    intro h o st hb
    have hb2 : blk (40 :: st) t.tr := by
      have e0 : rk 40 = 0 := by decide
      have : 0 < t.tr := by
        cases t with
        | d c => simp [T.tr]
        | br t => simp [T.tr]
        | bi x a b => exact h.1
      simp only [blk, e0]; omega
    obtain ⟨p, q, h1, h2, h3⟩ := ih h o (40 :: st) hb2
    refine ⟨p ++ q, [], ?_, by simp [T.post, h2], by simp⟩
    simp only [T.flat, run, stp_l, Bool.false_eq_true, if_false]
    rw [run_app, h1]
    simp only [run, stp_r, if_true]
    rw [popB_all _ _ _ (fun x hx => rk_ne (h3 x hx).2)]
    simp
  | bi x a b iha ihb =>
    intro h o st hb
    obtain ⟨hx, ha, hb', hl, hr⟩ := h
    have h3 := rk_le x
    have hba : blk st a.tr := by
      simp only [T.tr] at hb
      exact blk_mono hb (by omega)
    obtain ⟨p, q, h1, h2, hq⟩ := iha ha o st hba
    have hpop : popK (rk x) (o ++ p) (q ++ st) = (o ++ p ++ q, st) := by
      rw [popK_all q _ _ (fun y hy => by
        have := hq y hy
        have := rk_le y
        omega), popK_blk (show blk st (rk x) from hb)]
    have hbb : blk (x :: st) b.tr := by simp only [blk]; omega
    obtain ⟨p', q', h1', h2', hq'⟩ := ihb hb' (o ++ p ++ q) (x :: st) hbb
    refine ⟨p ++ q ++ p', q' ++ [x], ?_, ?_, ?_⟩
    · simp only [T.flat]
      rw [run_app, h1]
      simp only [run, stp_op hx, if_true, hpop]
      rw [h1']
      simp
    · rw [T.post, ← h2, ← h2']; simp
    · intro y hy
      simp only [T.tr]
      rcases List.mem_append.1 hy with hy | hy
      · have := hq' y hy; omega
      · simp at hy; subst hy; exact ⟨Nat.le_refl _, hx⟩
theorem cb_ops : ∀ (q : List UInt8), (∀ x ∈ q, 0 < rk x) → cb q = 0 := by
  intro q
  induction q with
  | nil => intro _; rfl
  | cons x q ih =>
    intro h
    have hx := rk_ne (h x (by simp))
    simp [cb, hx, ih (fun y hy => h y (by simp [hy]))]
theorem post_tree {t : T} (h : t.wf) : postM t.flat = some t.post := by
  obtain ⟨p, q, h1, h2, h3⟩ := run_tree t h [] [] trivial
  unfold postM
  rw [h1]
  simp only [if_true, List.append_nil, List.nil_append]
  rw [fin_ok _ _ (cb_ops q (fun x hx => (h3 x hx).2)), h2]
/-- What the code takes is a tree. -/
theorem tree_of {s p : List UInt8} (h : postM s = some p) : ∃ t : T, t.wf ∧ t.flat = s ∧ p = t.post := by
  obtain ⟨t, h1, h2, _⟩ := acc_tree (s.length + 1) s (acc_of_post h) (by omega)
  refine ⟨t, h1, h2, ?_⟩
  have := post_tree h1
  rw [h2, h] at this
  exact Option.some.inj this
/-- The document's answer is the code's. -/
theorem rpost_post {f : Nat} {s : List UInt8} (hf : s.length < f) : rpost f s = postM s := by
  cases h : postM s with
  | none =>
    cases h2 : rpost f s with
    | none => rfl
    | some p =>
      obtain ⟨t, h3, h4, _⟩ := acc_tree (s.length + 1) s (acc_of_rpost _ _ _ h2) (by omega)
      have := post_tree h3
      rw [h4, h] at this; cases this
  | some p =>
    obtain ⟨t, h3, h4, h5⟩ := acc_tree f s (acc_of_post h) hf
    have := post_tree h3
    rw [h4, h] at this
    rw [h5, this]
theorem post_len {t : T} : t.post.length ≤ t.flat.length := by
  induction t with
  | d c => simp [T.post, T.flat]
  | br t ih => simp only [T.post, T.flat, List.length_cons, List.length_append]; omega
  | bi x a b iha ihb => simp only [T.post, T.flat, List.length_cons, List.length_append, List.length_nil]; omega
theorem postM_len {s p : List UInt8} (h : postM s = some p) : p.length ≤ s.length := by
  obtain ⟨t, _, h2, h3⟩ := tree_of h
  rw [← h2, h3]; exact post_len

/-- Powers by the prime. -/
def pw (a b : Nat) : Nat := a ^ b % 9973
def doM (c : UInt8) (a b : Nat) : Nat := if c == 43 then (a + b) % 9973 else if c == 45 then (a + 9973 - b) % 9973 else if c == 42 then a * b % 9973 else pw a b
theorem doM_lt (c : UInt8) (a b : Nat) : doM c a b < 9973 := by
  unfold doM pw
  split
  · exact Nat.mod_lt _ (by decide)
  split
  · exact Nat.mod_lt _ (by decide)
  split <;> exact Nat.mod_lt _ (by decide)
/-- Numbers on a stack (the top is the head). -/
def rstp (st : List Nat) (c : UInt8) : Option (List Nat) :=
  if dig c then some ((c.toNat - 48) :: st) else
    match st with
    | b :: a :: st' => if rk c != 0 then some (doM c a b :: st') else none
    | _ => none
def rrun : List Nat → List UInt8 → Option (List Nat)
  | st, [] => some st
  | st, c :: l => match rstp st c with
    | none => none
    | some st' => rrun st' l
def readM (l : List UInt8) : Option Nat := match rrun [] l with
  | some [x] => some x
  | _ => none
theorem rrun_app (s : List Nat) (a b : List UInt8) : rrun s (a ++ b) = match rrun s a with
    | none => none
    | some s' => rrun s' b := by
  induction a generalizing s with
  | nil => rfl
  | cons c a ih =>
    simp only [List.cons_append, rrun]
    cases rstp s c with
    | none => rfl
    | some p => exact ih _
theorem rstp_deep {s s' : List Nat} {c : UInt8} (u : List Nat) (h : rstp s c = some s') : rstp (s ++ u) c = some (s' ++ u) := by
  unfold rstp at *
  split at h
  · rename_i hd; rw [if_pos hd]; simp at h; subst h; rfl
  · rename_i hd
    rw [if_neg hd]
    match s, h with
    | b :: a :: st, h =>
      simp only [List.cons_append] at h ⊢
      split at h
      · rename_i hk; rw [if_pos hk]; simp at h; subst h; rfl
      · cases h
theorem rrun_deep (u : List Nat) : ∀ (l : List UInt8) (s s' : List Nat), rrun s l = some s' → rrun (s ++ u) l = some (s' ++ u) := by
  intro l
  induction l with
  | nil => intro s s' h; simp only [rrun, Option.some.injEq] at h; subst h; rfl
  | cons c l ih =>
    intro s s' h
    simp only [rrun] at h ⊢
    cases hs : rstp s c with
    | none => rw [hs] at h; cases h
    | some s1 =>
      rw [hs] at h
      rw [rstp_deep u hs]
      exact ih _ _ h
theorem readM_some {l : List UInt8} {x : Nat} (h : readM l = some x) : rrun [] l = some [x] := by
  unfold readM at h
  split at h
  · rename_i y e; simp at h; subst h; exact e
  · cases h
theorem rstp_lt {s s' : List Nat} {c : UInt8} (h : rstp s c = some s') (hs : ∀ x ∈ s, x < 9973) : ∀ x ∈ s', x < 9973 := by
  unfold rstp at h
  split at h
  · rename_i hd
    simp at h; subst h
    have : c.toNat ≤ 57 := by unfold dig at hd; simp at hd; exact hd.2
    intro x hx
    rcases List.mem_cons.1 hx with rfl | hx
    · omega
    · exact hs x hx
  · match s, h with
    | b :: a :: st, h =>
      simp only at h
      split at h
      · simp at h; subst h
        intro x hx
        rcases List.mem_cons.1 hx with rfl | hx
        · exact doM_lt _ _ _
        · exact hs x (by simp [hx])
      · cases h
theorem rrun_lt : ∀ (l : List UInt8) (s s' : List Nat), rrun s l = some s' → (∀ x ∈ s, x < 9973) → ∀ x ∈ s', x < 9973 := by
  intro l
  induction l with
  | nil => intro s s' h hs; simp only [rrun, Option.some.injEq] at h; subst h; exact hs
  | cons c l ih =>
    intro s s' h hs
    simp only [rrun] at h
    cases h1 : rstp s c with
    | none => rw [h1] at h; cases h
    | some s1 => rw [h1] at h; exact ih _ _ h (rstp_lt h1 hs)
theorem readM_lt {l : List UInt8} {x : Nat} (h : readM l = some x) : x < 9973 := rrun_lt _ _ _ (readM_some h) (by simp) x (by simp)

/-- What is done to two that have values. -/
theorem rstp_op {c : UInt8} (h : 0 < rk c) (a b : Nat) (st : List Nat) : rstp (b :: a :: st) c = some (doM c a b :: st) := by
  rcases kinds c with ⟨_, _, _, h1⟩ | ⟨_, _, h1⟩ | ⟨_, _, h1⟩ | ⟨h0, h1, h2, _⟩ | ⟨_, _, _, h1⟩
  · omega
  · omega
  · omega
  · have h3 : rk c ≠ 0 := by omega
    simp [rstp, h0, h3]
  · omega
theorem read_two {a b : List UInt8} {x y : Nat} (ha : readM a = some x) (hb : readM b = some y) {c : UInt8} (h : 0 < rk c) : readM (a ++ b ++ [c]) = some (doM c x y) ∧ readM (a ++ b) = none := by
  have h1 := readM_some ha
  have h2 := rrun_deep [x] _ _ _ (readM_some hb)
  have h3 : rrun [] (a ++ b) = some [y, x] := by rw [rrun_app, h1]; exact h2
  constructor
  · unfold readM
    rw [rrun_app, h3]
    simp only [rrun, rstp_op h]
  · unfold readM
    rw [h3]
namespace T
def ev : T → Nat
  | d c => c.toNat - 48
  | br t => ev t
  | bi x a b => doM x (ev a) (ev b)
end T
theorem read_tree : ∀ (t : T), t.wf → readM t.post = some t.ev := by
  intro t
  induction t with
  | d c => intro h; have h' : dig c = true := h; simp [readM, T.post, rrun, rstp, h', T.ev]
  | br t ih => intro h; exact ih h
  | bi x a b iha ihb => intro h; exact (read_two (iha h.2.1) (ihb h.2.2.1) h.1).1
/-- The value of a text. -/
def valM (s : List UInt8) : Option Nat := (postM s).bind readM
theorem val_tree {t : T} (h : t.wf) : valM t.flat = some t.ev := by
  unfold valM
  rw [post_tree h]
  exact read_tree t h
theorem val_of {s : List UInt8} {x : Nat} (h : valM s = some x) : ∃ t : T, t.wf ∧ t.flat = s ∧ x = t.ev := by
  unfold valM at h
  cases hp : postM s with
  | none => rw [hp] at h; cases h
  | some p =>
    rw [hp] at h
    obtain ⟨t, h1, h2, h3⟩ := tree_of hp
    refine ⟨t, h1, h2, ?_⟩
    have : readM p = some x := h
    rw [h3, read_tree t h1] at this
    exact (Option.some.inj this).symm
theorem val_some {s p : List UInt8} (h : postM s = some p) : ∃ x, readM p = some x ∧ valM s = some x := by
  obtain ⟨t, h1, h2, h3⟩ := tree_of h
  exact ⟨t.ev, by rw [h3]; exact read_tree t h1, by rw [← h2]; exact val_tree h1⟩
theorem ev_lt {t : T} (h : t.wf) : t.ev < 9973 := readM_lt (read_tree t h)
end Go.Proofs.YtehecbfgdpaemaaDoor.YardM
