/- What the functions of package lines compute, in plain Lean; no program in sight. -/
import Derived.Test.YtikkcjclhalhgaaDoorPlain
namespace Go.Proofs.YtikkcjclhalhgaaDoor.LinesM
def left (wide : Int) (l : List Int) : Int := wide + 1 - (l.map (· + 1)).sum
def chk (wide : Int) (l : List Int) : Int :=
  if 1 ≤ wide ∧ wide ≤ 30 then (if l.length > 20 then 4 else if ∀ x ∈ l, 1 ≤ x ∧ x ≤ wide then 0 else 1) else 1
def inner (wide : Int) (ws : List Int) (i : Nat) : Nat → Nat → List Int × List Int → List Int × List Int
  | 0, _, s => s
  | f + 1, k, (cost, take) =>
    if i + k ≤ ws.length then
      if left wide ((ws.drop i).take k) < 0 then (cost, take)
      else
        let c := gi cost (i + k) + if i + k < ws.length then left wide ((ws.drop i).take k) * left wide ((ws.drop i).take k) else 0
        if gi take i = 0 ∨ c ≤ gi cost i then inner wide ws i f (k + 1) (cost.set i c, take.set i k)
        else inner wide ws i f (k + 1) (cost, take)
    else (cost, take)
def outer (wide : Int) (ws : List Int) : Nat → List Int × List Int → List Int × List Int
  | 0, s => s
  | i + 1, s => outer wide ws i (inner wide ws i (ws.length + 1 - (i + 1) + 1) 1 s)
def out (take : List Int) (n : Nat) : Nat → Nat → List Int → List Int
  | 0, _, acc => acc
  | f + 1, i, acc => if i < n then out take n f (i + (gi take i).toNat) (acc ++ [gi take i]) else acc
def tables (wide : Int) (ws : List Int) : List Int × List Int :=
  outer wide ws ws.length (List.replicate (ws.length + 1) 0, List.replicate (ws.length + 1) 0)
def best (wide : Int) (ws : List Int) : List Int := out (tables wide ws).2 ws.length ws.length 0 []
def bestCost (wide : Int) (ws : List Int) : Int := gi ((tables wide ws).1) 0
def gk (wide : Int) (ws : List Int) (i : Nat) : Nat → Nat → Nat
  | 0, k => k
  | f + 1, k => if i + k < ws.length ∧ 0 ≤ left wide ((ws.drop i).take (k + 1)) then gk wide ws i f (k + 1) else k
def greedyGo (wide : Int) (ws : List Int) : Nat → Nat → List Int → List Int
  | 0, _, acc => acc
  | f + 1, i, acc => if i < ws.length then
      let k := gk wide ws i ws.length 1
      greedyGo wide ws f (i + k) (acc ++ [(k : Int)])
    else acc
def greedy (wide : Int) (ws : List Int) : List Int := greedyGo wide ws ws.length 0 []

theorem inner_stop {wide : Int} {ws : List Int} {i f k : Nat} {s : List Int × List Int} (h : ws.length < i + k ∨ left wide ((ws.drop i).take k) < 0) : inner wide ws i f k s = s := by
  cases f with
  | zero => rfl
  | succ f =>
    unfold inner
    split
    · rw [if_pos (h.resolve_left (by omega))]
    · rfl
theorem inner_yes {wide : Int} {ws : List Int} {i f k : Nat} {s : List Int × List Int} (h1 : i + k ≤ ws.length) {room : Int} (hr : left wide ((ws.drop i).take k) = room) (h2 : 0 ≤ room) {c : Int}
    (hc : gi s.1 (i + k) + (if i + k < ws.length then room * room else 0) = c) (h3 : gi s.2 i = 0 ∨ c ≤ gi s.1 i) :
    inner wide ws i (f + 1) k s = inner wide ws i f (k + 1) (s.1.set i c, s.2.set i k) := by
  conv => lhs; unfold inner
  rw [if_pos h1, hr, if_neg (by omega)]
  simp only [hc]
  rw [if_pos h3]
theorem inner_no {wide : Int} {ws : List Int} {i f k : Nat} {s : List Int × List Int} (h1 : i + k ≤ ws.length) {room : Int} (hr : left wide ((ws.drop i).take k) = room) (h2 : 0 ≤ room) {c : Int}
    (hc : gi s.1 (i + k) + (if i + k < ws.length then room * room else 0) = c) (h3 : ¬ (gi s.2 i = 0 ∨ c ≤ gi s.1 i)) :
    inner wide ws i (f + 1) k s = inner wide ws i f (k + 1) s := by
  conv => lhs; unfold inner
  rw [if_pos h1, hr, if_neg (by omega)]
  simp only [hc]
  rw [if_neg h3]
/-- The costs so far are small. -/
def CB (n : Nat) (c : List Int) : Prop := ∀ j, j ≤ n → 0 ≤ gi c j ∧ gi c j ≤ 900 * ((n : Int) - j)
theorem CB.new (n m : Nat) : CB n (List.replicate m 0) := by
  intro j hj
  rw [gi_replicate]; omega
theorem CB.set {n : Nat} {c : List Int} (h : CB n c) {i : Nat} {x : Int} (h0 : 0 ≤ x) (h1 : x ≤ 900 * ((n : Int) - i)) : CB n (c.set i x) := by
  intro j hj
  rw [gi_set]
  split
  · rename_i e; subst e
    split
    · simpa using ⟨h0, h1⟩
    · omega
  · exact h j hj

/-- What 'take' holds: each row that was filled names a line that fits. -/
def TakeOk (n : Nat) (t : List Int) (i : Nat) : Prop := ∀ j, i ≤ j → j < n → 1 ≤ gi t j ∧ gi t j ≤ (n : Int) - j
theorem inner_cases (wide : Int) (ws : List Int) (i f k : Nat) (s : List Int × List Int) :
    ((ws.length < i + k ∨ left wide ((ws.drop i).take k) < 0) ∧ inner wide ws i (f + 1) k s = s) ∨
    (i + k ≤ ws.length ∧ 0 ≤ left wide ((ws.drop i).take k) ∧ ∃ c, inner wide ws i (f + 1) k s = inner wide ws i f (k + 1) (s.1.set i c, s.2.set i k)) ∨
    (i + k ≤ ws.length ∧ 0 ≤ left wide ((ws.drop i).take k) ∧ ¬ gi s.2 i = 0 ∧ inner wide ws i (f + 1) k s = inner wide ws i f (k + 1) s) := by
  by_cases h1 : i + k ≤ ws.length
  · by_cases h2 : left wide ((ws.drop i).take k) < 0
    · exact .inl ⟨.inr h2, inner_stop (.inr h2)⟩
    · by_cases h3 : gi s.2 i = 0 ∨ (gi s.1 (i + k) + (if i + k < ws.length then left wide ((ws.drop i).take k) * left wide ((ws.drop i).take k) else 0)) ≤ gi s.1 i
      · exact .inr (.inl ⟨h1, by omega, _, inner_yes h1 rfl (by omega) rfl h3⟩)
      · exact .inr (.inr ⟨h1, by omega, fun e => h3 (.inl e), inner_no h1 rfl (by omega) rfl h3⟩)
  · exact .inl ⟨.inl (by omega), inner_stop (.inl (by omega))⟩
theorem inner_take (wide : Int) (ws : List Int) (i : Nat) : ∀ (f k : Nat) (s : List Int × List Int), s.2.length = ws.length + 1 → 1 ≤ k → TakeOk ws.length s.2 (i + 1) → i < ws.length →
    (1 ≤ gi s.2 i ∧ gi s.2 i ≤ (ws.length : Int) - i ∨ 1 ≤ f ∧ k = 1 ∧ gi s.2 i = 0 ∧ 0 ≤ left wide ((ws.drop i).take 1)) →
    (inner wide ws i f k s).2.length = ws.length + 1 ∧ TakeOk ws.length (inner wide ws i f k s).2 i := by
  intro f
  induction f with
  | zero =>
    intro k s hl hk ht hi h
    rcases h with h | h
    · refine ⟨hl, fun j hj hjn => ?_⟩
      by_cases e : j = i
      · subst e; exact h
      · exact ht j (by omega) hjn
    · omega
  | succ f ih =>
    intro k s hl hk ht hi h
    have hset : ∀ x : Int, 1 ≤ x → x ≤ (ws.length : Int) - i → (s.2.set i x).length = ws.length + 1 ∧ TakeOk ws.length (s.2.set i x) (i + 1) ∧ (1 ≤ gi (s.2.set i x) i ∧ gi (s.2.set i x) i ≤ (ws.length : Int) - i) := by
      intro x h1 h2
      refine ⟨by simpa using hl, fun j hj hjn => ?_, ?_⟩
      · rw [gi_set_ne (by omega)]; exact ht j hj hjn
      · rw [gi_set_self (by omega)]; exact ⟨h1, h2⟩
    have hstop : (1 ≤ gi s.2 i ∧ gi s.2 i ≤ (ws.length : Int) - i) → s.2.length = ws.length + 1 ∧ TakeOk ws.length s.2 i := by
      intro h
      refine ⟨hl, fun j hj hjn => ?_⟩
      by_cases e : j = i
      · subst e; exact h
      · exact ht j (by omega) hjn
    rcases inner_cases wide ws i f k s with ⟨h1, e⟩ | ⟨h1, h2, c, e⟩ | ⟨h1, h2, h3, e⟩
    · rw [e]
      rcases h with h | ⟨_, rfl, _, h⟩
      · exact hstop h
      · omega
    · rw [e]
      obtain ⟨a, b, c'⟩ := hset k (by omega) (by omega)
      exact ih (k + 1) (_, _) a (by omega) b hi (.inl c')
    · rw [e]
      refine ih (k + 1) _ hl (by omega) ht hi (.inl ?_)
      rcases h with h | ⟨_, _, h, _⟩
      · exact h
      · exact absurd h h3
theorem inner_zero (wide : Int) (ws : List Int) (i : Nat) : ∀ (f k : Nat) (s : List Int × List Int) (j : Nat), j ≠ i → gi (inner wide ws i f k s).2 j = gi s.2 j := by
  intro f
  induction f with
  | zero => intro k s j h; rfl
  | succ f ih =>
    intro k s j h
    rcases inner_cases wide ws i f k s with ⟨h1, e⟩ | ⟨h1, h2, c, e⟩ | ⟨h1, h2, h3, e⟩
    · rw [e]
    · rw [e, ih _ _ _ h, gi_set_ne (fun e => h e.symm)]
    · rw [e, ih _ _ _ h]
theorem outer_take (wide : Int) (ws : List Int) (hw : ∀ x ∈ ws, 1 ≤ x ∧ x ≤ wide) : ∀ (i : Nat) (s : List Int × List Int), i ≤ ws.length → s.2.length = ws.length + 1 → TakeOk ws.length s.2 i → (∀ j, j < i → gi s.2 j = 0) →
    TakeOk ws.length (outer wide ws i s).2 0 := by
  intro i
  induction i with
  | zero => intro s _ _ h _; exact h
  | succ i ih =>
    intro s hi hl ht hz
    unfold outer
    have hroom : 0 ≤ left wide ((ws.drop i).take 1) := by
      have hd : (ws.drop i).take 1 = [ws[i]] := by
        rw [List.drop_eq_getElem_cons (by omega)]; rfl
      rw [hd]
      have := hw ws[i] (List.getElem_mem _)
      simp only [left, List.map_cons, List.map_nil, List.sum_cons, List.sum_nil]; omega
    obtain ⟨h1, h2⟩ := inner_take wide ws i (ws.length + 1 - (i + 1) + 1) 1 s hl (by omega) ht (by omega) (.inr ⟨by omega, rfl, hz i (by omega), hroom⟩)
    exact ih _ (by omega) h1 h2 (fun j hj => by rw [inner_zero _ _ _ _ _ _ _ (by omega)]; exact hz j (by omega))
theorem tables_take (wide : Int) (ws : List Int) (hw : ∀ x ∈ ws, 1 ≤ x ∧ x ≤ wide) (j : Nat) (hj : j < ws.length) : 1 ≤ gi ((tables wide ws).2) j ∧ gi ((tables wide ws).2) j ≤ (ws.length : Int) - j :=
  outer_take wide ws hw ws.length _ (Nat.le_refl _) (by simp) (fun j h1 h2 => by omega) (fun j hj => by
    exact gi_replicate _ _) j (by omega) hj
end Go.Proofs.YtikkcjclhalhgaaDoor.LinesM
