/- The plain law of package lines: what the tables hold; no other lines leave less; full lines are the fewest. -/
import Derived.Test.YtikkcjclhalhgaaDoorLinesM
namespace Go.Proofs.YtikkcjclhalhgaaDoor.LinesM

def costsGo (wide : Int) (ws : List Int) : List Int → Nat → Int → Int
  | [], at', sum => if at' = ws.length then sum else -1
  | x :: r, at', sum =>
    if 1 ≤ x ∧ x ≤ (ws.length : Int) - at' then
      if left wide ((ws.drop at').take x.toNat) < 0 then -1
      else costsGo wide ws r (at' + x.toNat) (if at' + x.toNat < ws.length then sum + left wide ((ws.drop at').take x.toNat) * left wide ((ws.drop at').take x.toNat) else sum)
    else -1
def costs (wide : Int) (ws l : List Int) : Int := costsGo wide ws l 0 0
theorem costsGo_nil (wide : Int) (ws : List Int) (a : Nat) (sum : Int) : costsGo wide ws [] a sum = if a = ws.length then sum else -1 := by
  unfold costsGo; rfl
theorem costsGo_cons {wide : Int} {ws r : List Int} {a X : Nat} {sum : Int} (h1 : 1 ≤ X) (h2 : a + X ≤ ws.length) (h3 : ¬ left wide ((ws.drop a).take X) < 0) :
    costsGo wide ws ((X : Int) :: r) a sum = costsGo wide ws r (a + X) (if a + X < ws.length then sum + left wide ((ws.drop a).take X) * left wide ((ws.drop a).take X) else sum) := by
  conv => lhs; unfold costsGo
  rw [if_pos ⟨by omega, by omega⟩, Int.toNat_natCast, if_neg h3]

/-- What is left of a line of k words from i on. -/
def rm (wide : Int) (ws : List Int) (i k : Nat) : Int := left wide ((ws.drop i).take k)
def term (wide : Int) (ws : List Int) (i k : Nat) : Int := if i + k < ws.length then rm wide ws i k * rm wide ws i k else 0

theorem sq_nonneg (a : Int) : 0 ≤ a * a := by
  rcases Int.le_total 0 a with h | h
  · exact Int.mul_nonneg h h
  · have := Int.mul_nonneg (show 0 ≤ -a by omega) (show 0 ≤ -a by omega)
    rwa [Int.neg_mul_neg] at this
theorem term_nonneg (wide : Int) (ws : List Int) (i k : Nat) : 0 ≤ term wide ws i k := by
  unfold term; split
  · exact sq_nonneg _
  · omega
theorem rm_zero (wide : Int) (ws : List Int) (i : Nat) : rm wide ws i 0 = wide + 1 := by simp [rm, left]
theorem rm_succ (wide : Int) (ws : List Int) (i k : Nat) (h : i + k < ws.length) : rm wide ws i (k + 1) = rm wide ws i k - (gi ws (i + k) + 1) := by
  unfold rm left
  rw [take_succ_gi (by simp; omega), gi_drop]
  simp; omega
theorem rm_front (wide : Int) (ws : List Int) (i k : Nat) (h : i < ws.length) : rm wide ws i (k + 1) = rm wide ws (i + 1) k - (gi ws i + 1) := by
  unfold rm left
  rw [drop_gi h]
  simp; omega
theorem rm_mono {wide : Int} {ws : List Int} (hw : ∀ x ∈ ws, 1 ≤ x ∧ x ≤ wide) (i : Nat) : ∀ (d k : Nat), i + k + d ≤ ws.length → rm wide ws i (k + d) ≤ rm wide ws i k := by
  intro d
  induction d with
  | zero => intro k _; exact Int.le_refl _
  | succ d ih =>
    intro k h
    have h1 := ih k (by omega)
    have h2 := rm_succ wide ws i (k + d) (by omega)
    have h3 := hw _ (gi_mem (l := ws) (k := i + (k + d)) (by omega))
    rw [← Nat.add_assoc]; omega
theorem rm_shift {wide : Int} {ws : List Int} (hw : ∀ x ∈ ws, 1 ≤ x ∧ x ≤ wide) : ∀ (d i k : Nat), i + d + k ≤ ws.length → rm wide ws i (d + k) ≤ rm wide ws (i + d) k := by
  intro d
  induction d with
  | zero => intro i k _; simp
  | succ d ih =>
    intro i k h
    have h1 := ih (i + 1) k (by omega)
    have h2 := rm_front wide ws i (d + k) (by omega)
    have h3 := hw _ (gi_mem (l := ws) (k := i) (by omega))
    rw [show d + 1 + k = d + k + 1 from by omega, h2, show i + (d + 1) = i + 1 + d from by omega]
    omega
theorem rm_one {wide : Int} {ws : List Int} (hw : ∀ x ∈ ws, 1 ≤ x ∧ x ≤ wide) (i : Nat) (h : i < ws.length) : 0 ≤ rm wide ws i 1 := by
  have h1 := rm_succ wide ws i 0 (by omega)
  have h2 := rm_zero wide ws i
  have h3 := hw _ (gi_mem (l := ws) (k := i + 0) (by omega))
  simp only [Nat.zero_add] at h1
  omega

/-- What holds of the row i of the tables. -/
def Row (wide : Int) (ws : List Int) (C T : List Int) (i : Nat) : Prop :=
  ∃ t : Nat, gi T i = t ∧ 1 ≤ t ∧ i + t ≤ ws.length ∧ 0 ≤ rm wide ws i t ∧ gi C i = gi C (i + t) + term wide ws i t ∧
    (∀ k, 1 ≤ k → i + k ≤ ws.length → 0 ≤ rm wide ws i k → gi C i ≤ gi C (i + k) + term wide ws i k) ∧
    (∀ k, t < k → i + k ≤ ws.length → 0 ≤ rm wide ws i k → gi C i < gi C (i + k) + term wide ws i k)

theorem inner_row {wide : Int} {ws : List Int} (hw : ∀ x ∈ ws, 1 ≤ x ∧ x ≤ wide) (i : Nat) (hi : i < ws.length) : ∀ (f k : Nat) (s : List Int × List Int),
    s.1.length = ws.length + 1 → s.2.length = ws.length + 1 → 1 ≤ k → i + k + f = ws.length + 2 →
    ((k = 1 ∧ gi s.2 i = 0) ∨ (∃ t : Nat, gi s.2 i = t ∧ 1 ≤ t ∧ (t < k ∧ i + t ≤ ws.length) ∧ 0 ≤ rm wide ws i t ∧ gi s.1 i = gi s.1 (i + t) + term wide ws i t ∧
      (∀ k', 1 ≤ k' → k' < k → gi s.1 i ≤ gi s.1 (i + k') + term wide ws i k') ∧ (∀ k', t < k' → k' < k → gi s.1 i < gi s.1 (i + k') + term wide ws i k'))) →
    let r := inner wide ws i f k s
    r.1.length = ws.length + 1 ∧ r.2.length = ws.length + 1 ∧ (∀ j, j ≠ i → gi r.1 j = gi s.1 j ∧ gi r.2 j = gi s.2 j) ∧ Row wide ws r.1 r.2 i := by
  intro f
  induction f with
  | zero =>
    intro k s h1 h2 hk hf hI
    refine ⟨h1, h2, fun _ _ => ⟨rfl, rfl⟩, ?_⟩
    rcases hI with ⟨rfl, _⟩ | ⟨t, a1, a2, a3, a4, a5, a6, a7⟩
    · omega
    · exact ⟨t, a1, a2, a3.2, a4, a5, fun k' b1 b2 _ => a6 k' b1 (by omega), fun k' b1 b2 _ => a7 k' b1 (by omega)⟩
  | succ f ih =>
    intro k s h1 h2 hk hf hI
    by_cases hr : ws.length < i + k ∨ rm wide ws i k < 0
    · have e : inner wide ws i (f + 1) k s = s := inner_stop hr
      rw [e]
      refine ⟨h1, h2, fun _ _ => ⟨rfl, rfl⟩, ?_⟩
      rcases hI with ⟨rfl, _⟩ | ⟨t, a1, a2, a3, a4, a5, a6, a7⟩
      · have := rm_one hw i hi; rcases hr with hr | hr <;> omega
      · have hneg : ∀ k', k ≤ k' → i + k' ≤ ws.length → rm wide ws i k' < 0 := fun k' b1 b2 => by
          rcases hr with hr | hr
          · omega
          have := rm_mono hw i (k' - k) k (by omega)
          rw [Nat.add_sub_cancel' b1] at this
          omega
        refine ⟨t, a1, a2, a3.2, a4, a5, fun k' b1 b2 b3 => ?_, fun k' b1 b2 b3 => ?_⟩
        · by_cases hkk : k' < k
          · exact a6 k' b1 hkk
          · have := hneg k' (by omega) b2; omega
        · by_cases hkk : k' < k
          · exact a7 k' b1 hkk
          · have := hneg k' (by omega) b2; omega
    · have hc : gi s.1 (i + k) + (if i + k < ws.length then rm wide ws i k * rm wide ws i k else 0) = gi s.1 (i + k) + term wide ws i k := rfl
      by_cases hy : gi s.2 i = 0 ∨ gi s.1 (i + k) + term wide ws i k ≤ gi s.1 i
      · have e := inner_yes (f := f) (s := s) (by omega) (room := rm wide ws i k) rfl (by omega) hc hy
        rw [e]
        have hg : ∀ j, j ≠ i → gi (s.1.set i (gi s.1 (i + k) + term wide ws i k)) j = gi s.1 j := fun j hj => gi_set_ne (fun e => hj e.symm)
        have hgi : gi (s.1.set i (gi s.1 (i + k) + term wide ws i k)) i = gi s.1 (i + k) + term wide ws i k := gi_set_self (by omega)
        have key := ih (k + 1) (s.1.set i (gi s.1 (i + k) + term wide ws i k), s.2.set i k) (by simpa using h1) (by simpa using h2) (by omega) (by omega)
          (.inr ⟨k, gi_set_self (by omega), hk, ⟨by omega, by omega⟩, by omega, by rw [hgi, hg _ (by omega)], fun k' b1 b2 => ?_, fun k' b1 b2 => by omega⟩)
        · obtain ⟨r1, r2, r3, r4⟩ := key
          refine ⟨r1, r2, fun j hj => ?_, r4⟩
          obtain ⟨x1, x2⟩ := r3 j hj
          exact ⟨x1.trans (hg j hj), x2.trans (gi_set_ne (fun e => hj e.symm))⟩
        · show gi (s.1.set i (gi s.1 (i + k) + term wide ws i k)) i ≤ gi (s.1.set i (gi s.1 (i + k) + term wide ws i k)) (i + k') + term wide ws i k'
          rw [hgi, hg _ (by omega)]
          by_cases hkk : k' = k
          · subst hkk; omega
          · rcases hI with ⟨rfl, _⟩ | ⟨t, a1, a2, a3, a4, a5, a6, a7⟩
            · omega
            · have := a6 k' b1 (by omega)
              rcases hy with hy | hy
              · omega
              · omega
      · have e := inner_no (f := f) (s := s) (by omega) (room := rm wide ws i k) rfl (by omega) hc hy
        rw [e]
        refine ih (k + 1) s h1 h2 (by omega) (by omega) (.inr ?_)
        rcases hI with ⟨_, h0⟩ | ⟨t, a1, a2, a3, a4, a5, a6, a7⟩
        · exact absurd (.inl h0) hy
        · have hlt : gi s.1 i < gi s.1 (i + k) + term wide ws i k := by
            rcases Int.lt_or_le (gi s.1 i) (gi s.1 (i + k) + term wide ws i k) with h | h
            · exact h
            · exact absurd (.inr h) hy
          refine ⟨t, a1, a2, ⟨by omega, a3.2⟩, a4, a5, fun k' b1 b2 => ?_, fun k' b1 b2 => ?_⟩
          · by_cases hkk : k' = k
            · subst hkk; omega
            · exact a6 k' b1 (by omega)
          · by_cases hkk : k' = k
            · subst hkk; exact hlt
            · exact a7 k' b1 (by omega)

theorem row_congr {wide : Int} {ws C T C' T' : List Int} {j : Nat} (h : Row wide ws C T j) (hC : ∀ m, j ≤ m → gi C' m = gi C m) (hT : gi T' j = gi T j) : Row wide ws C' T' j := by
  obtain ⟨t, a1, a2, a3, a4, a5, a6, a7⟩ := h
  refine ⟨t, hT.trans a1, a2, a3, a4, ?_, fun k b1 b2 b3 => ?_, fun k b1 b2 b3 => ?_⟩
  · rw [hC _ (by omega), hC _ (by omega)]; exact a5
  · rw [hC _ (by omega), hC _ (by omega)]; exact a6 k b1 b2 b3
  · rw [hC _ (by omega), hC _ (by omega)]; exact a7 k b1 b2 b3
theorem outer_rows {wide : Int} {ws : List Int} (hw : ∀ x ∈ ws, 1 ≤ x ∧ x ≤ wide) : ∀ (i : Nat) (s : List Int × List Int), i ≤ ws.length → s.1.length = ws.length + 1 → s.2.length = ws.length + 1 →
    (∀ j, j < i → gi s.2 j = 0) → gi s.1 ws.length = 0 → (∀ j, i ≤ j → j < ws.length → Row wide ws s.1 s.2 j) →
    gi (outer wide ws i s).1 ws.length = 0 ∧ ∀ j, j < ws.length → Row wide ws (outer wide ws i s).1 (outer wide ws i s).2 j := by
  intro i
  induction i with
  | zero => intro s _ _ _ _ h0 h; exact ⟨h0, fun j hj => h j (by omega) hj⟩
  | succ i ih =>
    intro s hi h1 h2 hz h0 h
    unfold outer
    obtain ⟨r1, r2, r3, r4⟩ := inner_row hw i (by omega) (ws.length + 1 - (i + 1) + 1) 1 s h1 h2 (by omega) (by omega) (.inl ⟨rfl, hz i (by omega)⟩)
    refine ih _ (by omega) r1 r2 (fun j hj => ?_) ?_ (fun j hj1 hj2 => ?_)
    · rw [(r3 j (by omega)).2]; exact hz j (by omega)
    · rw [(r3 _ (by omega)).1]; exact h0
    · by_cases e : j = i
      · rw [e]; exact r4
      · exact row_congr (h j (by omega) hj2) (fun m hm => (r3 m (by omega)).1) (r3 j e).2
theorem tables_rows {wide : Int} {ws : List Int} (hw : ∀ x ∈ ws, 1 ≤ x ∧ x ≤ wide) :
    gi (tables wide ws).1 ws.length = 0 ∧ ∀ j, j < ws.length → Row wide ws (tables wide ws).1 (tables wide ws).2 j :=
  outer_rows hw ws.length _ (Nat.le_refl _) (by simp) (by simp) (fun _ _ => gi_replicate _ _) (gi_replicate _ _) (fun j h1 h2 => by omega)

/-- No lines leave less. -/
theorem costs_ge {wide : Int} {ws : List Int} (hw : ∀ x ∈ ws, 1 ≤ x ∧ x ≤ wide) : ∀ (r : List Int) (a : Nat) (sum : Int), a ≤ ws.length →
    costsGo wide ws r a sum < 0 ∨ sum + gi (tables wide ws).1 a ≤ costsGo wide ws r a sum := by
  obtain ⟨h0, hrow⟩ := tables_rows hw
  intro r
  induction r with
  | nil =>
    intro a sum ha
    unfold costsGo
    split
    · rename_i e; subst e; right; omega
    · left; omega
  | cons x r ih =>
    intro a sum ha
    unfold costsGo
    split
    · rename_i hx
      obtain ⟨X, rfl⟩ : ∃ X : Nat, x = (X : Int) := ⟨x.toNat, by omega⟩
      rw [Int.toNat_natCast]
      split
      · left; omega
      · rename_i hr
        obtain ⟨t, a1, a2, a3, a4, a5, a6, a7⟩ := hrow a (by omega)
        have hC := a6 X (by omega) (by omega) (by show 0 ≤ left _ _; omega)
        have e : (if a + X < ws.length then sum + left wide ((ws.drop a).take X) * left wide ((ws.drop a).take X) else sum) = sum + term wide ws a X := by
          unfold term rm; split <;> omega
        rw [e]
        rcases ih (a + X) (sum + term wide ws a X) (by omega) with h | h
        · exact .inl h
        · right; omega
    · left; omega

def bestFrom (T : List Int) (n : Nat) : Nat → Nat → List Int
  | 0, _ => []
  | f + 1, i => if i < n then gi T i :: bestFrom T n f (i + (gi T i).toNat) else []
theorem out_eq (T : List Int) (n : Nat) : ∀ (f i : Nat) (acc : List Int), out T n f i acc = acc ++ bestFrom T n f i := by
  intro f
  induction f with
  | zero => intro i acc; simp [out, bestFrom]
  | succ f ih =>
    intro i acc
    unfold out bestFrom
    split
    · rw [ih]; simp
    · simp
theorem best_from {wide : Int} {ws : List Int} (hw : ∀ x ∈ ws, 1 ≤ x ∧ x ≤ wide) : ∀ (f i : Nat) (sum : Int), i ≤ ws.length → ws.length ≤ i + f →
    costsGo wide ws (bestFrom (tables wide ws).2 ws.length f i) i sum = sum + gi (tables wide ws).1 i := by
  obtain ⟨h0, hrow⟩ := tables_rows hw
  intro f
  induction f with
  | zero =>
    intro i sum h1 h2
    obtain rfl : i = ws.length := by omega
    simp [bestFrom, costsGo, h0]
  | succ f ih =>
    intro i sum h1 h2
    unfold bestFrom
    split
    · rename_i hlt
      obtain ⟨t, a1, a2, a3, a4, a5, a6, a7⟩ := hrow i hlt
      rw [a1, Int.toNat_natCast]
      unfold costsGo
      rw [if_pos ⟨by omega, by omega⟩, Int.toNat_natCast, if_neg (by show ¬ rm wide ws i t < 0; omega)]
      have e : (if i + t < ws.length then sum + left wide ((ws.drop i).take t) * left wide ((ws.drop i).take t) else sum) = sum + term wide ws i t := by
        unfold term rm; split <;> omega
      rw [e, ih _ _ (by omega) (by omega)]
      omega
    · obtain rfl : i = ws.length := by omega
      simp [costsGo, h0]
theorem costs_best {wide : Int} {ws : List Int} (hw : ∀ x ∈ ws, 1 ≤ x ∧ x ≤ wide) : costs wide ws (best wide ws) = bestCost wide ws := by
  unfold costs best bestCost
  rw [out_eq, List.nil_append, best_from hw _ _ _ (by omega) (by omega)]
  omega
theorem costs_other {wide : Int} {ws : List Int} (hw : ∀ x ∈ ws, 1 ≤ x ∧ x ≤ wide) (l : List Int) : costs wide ws l < 0 ∨ bestCost wide ws ≤ costs wide ws l := by
  have := costs_ge hw l 0 0 (by omega)
  unfold costs bestCost
  omega

theorem gk_spec {wide : Int} {ws : List Int} (i : Nat) : ∀ (f k : Nat), 1 ≤ k → i + k ≤ ws.length → 0 ≤ rm wide ws i k → ws.length ≤ i + k + f →
    k ≤ gk wide ws i f k ∧ i + gk wide ws i f k ≤ ws.length ∧ 0 ≤ rm wide ws i (gk wide ws i f k) ∧ (i + gk wide ws i f k < ws.length → rm wide ws i (gk wide ws i f k + 1) < 0) := by
  intro f
  induction f with
  | zero => intro k h1 h2 h3 h4; exact ⟨Nat.le_refl _, h2, h3, fun h => by simp only [gk] at h; omega⟩
  | succ f ih =>
    intro k h1 h2 h3 h4
    unfold gk
    split
    · rename_i h
      obtain ⟨a1, a2, a3, a4⟩ := ih (k + 1) (by omega) (by omega) h.2 (by omega)
      exact ⟨by omega, a2, a3, a4⟩
    · rename_i h
      refine ⟨Nat.le_refl _, h2, h3, fun hlt => ?_⟩
      rcases Int.lt_or_le (rm wide ws i (k + 1)) 0 with h' | h'
      · exact h'
      · exact absurd ⟨hlt, h'⟩ h
/-- The words of a full line from i on. -/
def gw (wide : Int) (ws : List Int) (i : Nat) : Nat := gk wide ws i ws.length 1
theorem gw_spec {wide : Int} {ws : List Int} (hw : ∀ x ∈ ws, 1 ≤ x ∧ x ≤ wide) (i : Nat) (hi : i < ws.length) :
    1 ≤ gw wide ws i ∧ i + gw wide ws i ≤ ws.length ∧ 0 ≤ rm wide ws i (gw wide ws i) ∧ (i + gw wide ws i < ws.length → rm wide ws i (gw wide ws i + 1) < 0) :=
  gk_spec i ws.length 1 (by omega) (by omega) (rm_one hw i hi) (by omega)
def greedyFrom (wide : Int) (ws : List Int) : Nat → Nat → List Int
  | 0, _ => []
  | f + 1, i => if i < ws.length then (gw wide ws i : Int) :: greedyFrom wide ws f (i + gw wide ws i) else []
theorem greedyGo_eq (wide : Int) (ws : List Int) : ∀ (f i : Nat) (acc : List Int), greedyGo wide ws f i acc = acc ++ greedyFrom wide ws f i := by
  intro f
  induction f with
  | zero => intro i acc; simp [greedyGo, greedyFrom]
  | succ f ih =>
    intro i acc
    unfold greedyGo greedyFrom
    split
    · rw [ih]; simp [gw]
    · simp
theorem greedy_eq (wide : Int) (ws : List Int) : greedy wide ws = greedyFrom wide ws ws.length 0 := by
  unfold greedy; rw [greedyGo_eq]; simp
theorem greedy_fits {wide : Int} {ws : List Int} (hw : ∀ x ∈ ws, 1 ≤ x ∧ x ≤ wide) : ∀ (f i : Nat) (sum : Int), i ≤ ws.length → ws.length ≤ i + f → 0 ≤ sum →
    0 ≤ costsGo wide ws (greedyFrom wide ws f i) i sum := by
  intro f
  induction f with
  | zero =>
    intro i sum h1 h2 hs
    obtain rfl : i = ws.length := by omega
    simpa [greedyFrom, costsGo] using hs
  | succ f ih =>
    intro i sum h1 h2 hs
    unfold greedyFrom
    split
    · rename_i hlt
      obtain ⟨a1, a2, a3, a4⟩ := gw_spec hw i hlt
      generalize gw wide ws i = t at *
      unfold costsGo
      rw [if_pos ⟨by omega, by omega⟩, Int.toNat_natCast, if_neg (by show ¬ rm wide ws i t < 0; omega)]
      refine ih _ _ (by omega) (by omega) ?_
      have := sq_nonneg (left wide ((ws.drop i).take t))
      split <;> omega
    · obtain rfl : i = ws.length := by omega
      simpa [costsGo] using hs
theorem costs_greedy {wide : Int} {ws : List Int} (hw : ∀ x ∈ ws, 1 ≤ x ∧ x ≤ wide) : 0 ≤ costs wide ws (greedy wide ws) := by
  unfold costs; rw [greedy_eq]; exact greedy_fits hw _ _ _ (by omega) (by omega) (by omega)

/-- How many full lines from i on. -/
def G (wide : Int) (ws : List Int) (i : Nat) : Nat := (greedyFrom wide ws ws.length i).length
theorem greedyFrom_fuel {wide : Int} {ws : List Int} (hw : ∀ x ∈ ws, 1 ≤ x ∧ x ≤ wide) : ∀ (f f' i : Nat), ws.length ≤ i + f → ws.length ≤ i + f' → greedyFrom wide ws f i = greedyFrom wide ws f' i := by
  intro f
  induction f with
  | zero =>
    intro f' i h1 h2
    cases f' with
    | zero => rfl
    | succ f' => simp only [greedyFrom]; rw [if_neg (by omega)]
  | succ f ih =>
    intro f' i h1 h2
    cases f' with
    | zero => simp only [greedyFrom]; rw [if_neg (by omega)]
    | succ f' =>
      simp only [greedyFrom]
      split
      · rename_i hlt
        have := (gw_spec hw i hlt).1
        rw [ih f' _ (by omega) (by omega)]
      · rfl
theorem G_end (wide : Int) (ws : List Int) (i : Nat) (h : ws.length ≤ i) : G wide ws i = 0 := by
  unfold G
  cases hn : ws.length with
  | zero => rfl
  | succ n => simp only [greedyFrom]; rw [if_neg (by omega)]; rfl
theorem G_step {wide : Int} {ws : List Int} (hw : ∀ x ∈ ws, 1 ≤ x ∧ x ≤ wide) (i : Nat) (h : i < ws.length) : G wide ws i = G wide ws (i + gw wide ws i) + 1 := by
  have := (gw_spec hw i h).1
  unfold G
  rw [greedyFrom_fuel hw ws.length (ws.length + 1) i (by omega) (by omega)]
  conv => lhs; simp only [greedyFrom]
  rw [if_pos h]
  simp
theorem gw_max {wide : Int} {ws : List Int} (hw : ∀ x ∈ ws, 1 ≤ x ∧ x ≤ wide) {i k : Nat} (hi : i < ws.length) (hk : i + k ≤ ws.length) (hr : 0 ≤ rm wide ws i k) : k ≤ gw wide ws i := by
  obtain ⟨a1, a2, a3, a4⟩ := gw_spec hw i hi
  rcases Nat.lt_or_ge (gw wide ws i) k with h | h
  · have h1 := a4 (by omega)
    have h2 := rm_mono hw i (k - (gw wide ws i + 1)) (gw wide ws i + 1) (by omega)
    rw [Nat.add_sub_cancel' (by omega)] at h2
    omega
  · exact h
theorem G_mono {wide : Int} {ws : List Int} (hw : ∀ x ∈ ws, 1 ≤ x ∧ x ≤ wide) : ∀ (m i j : Nat), ws.length ≤ i + m → i ≤ j → G wide ws j ≤ G wide ws i := by
  intro m
  induction m with
  | zero => intro i j h1 h2; rw [G_end wide ws j (by omega)]; omega
  | succ m ih =>
    intro i j h1 h2
    by_cases hj : j < ws.length
    · obtain ⟨a1, a2, a3, a4⟩ := gw_spec hw i (by omega)
      rw [G_step hw i (by omega)]
      by_cases hij : i + gw wide ws i ≤ j
      · have := ih (i + gw wide ws i) j (by omega) hij; omega
      · rw [G_step hw j hj]
        have hfit : i + gw wide ws i ≤ j + gw wide ws j := by
          have hs := rm_shift hw (j - i) i (i + gw wide ws i - j) (by omega)
          rw [show j - i + (i + gw wide ws i - j) = gw wide ws i from by omega, show i + (j - i) = j from by omega] at hs
          have := gw_max hw hj (k := i + gw wide ws i - j) (by omega) (by omega)
          omega
        have := ih (i + gw wide ws i) (j + gw wide ws j) (by omega) hfit
        omega
    · rw [G_end wide ws j (by omega)]; omega
theorem few {wide : Int} {ws : List Int} (hw : ∀ x ∈ ws, 1 ≤ x ∧ x ≤ wide) : ∀ (r : List Int) (a : Nat) (sum : Int), a ≤ ws.length → costsGo wide ws r a sum < 0 ∨ G wide ws a ≤ r.length := by
  intro r
  induction r with
  | nil =>
    intro a sum ha
    unfold costsGo
    split
    · rename_i e; right; rw [G_end wide ws a (by omega)]; simp
    · left; omega
  | cons x r ih =>
    intro a sum ha
    unfold costsGo
    split
    · rename_i hx
      obtain ⟨X, rfl⟩ : ∃ X : Nat, x = (X : Int) := ⟨x.toNat, by omega⟩
      rw [Int.toNat_natCast]
      split
      · left; omega
      · rename_i hr
        rcases ih (a + X) _ (by omega) with h | h
        · exact .inl h
        · right
          rw [G_step hw a (by omega)]
          have hm := gw_max hw (i := a) (k := X) (by omega) (by omega) (by show 0 ≤ left _ _; omega)
          have := G_mono hw ws.length (a + X) (a + gw wide ws a) (by omega) (by omega)
          simp; omega
    · left; omega
theorem greedy_few {wide : Int} {ws : List Int} (hw : ∀ x ∈ ws, 1 ≤ x ∧ x ≤ wide) (l : List Int) : costs wide ws l < 0 ∨ (greedy wide ws).length ≤ l.length := by
  rw [greedy_eq]; exact few hw l 0 0 (by omega)
theorem costsGo_wider {wide wide' : Int} (hww : wide ≤ wide') (ws : List Int) : ∀ (r : List Int) (a : Nat) (sum sum' : Int), 0 ≤ sum' → 0 ≤ costsGo wide ws r a sum → 0 ≤ costsGo wide' ws r a sum' := by
  intro r
  induction r with
  | nil =>
    intro a sum sum' hs h
    unfold costsGo at h ⊢
    split
    · exact hs
    · rename_i e; rw [if_neg e] at h; omega
  | cons x r ih =>
    intro a sum sum' hs h
    unfold costsGo at h ⊢
    split
    · rename_i hx
      rw [if_pos hx] at h
      split at h
      · omega
      · rename_i hr
        rw [if_neg (by unfold left at hr ⊢; omega)]
        refine ih _ _ _ ?_ h
        have := sq_nonneg (left wide' ((ws.drop a).take x.toNat))
        split <;> omega
    · rename_i hx; rw [if_neg hx] at h; omega
theorem greedy_wider {wide wide' : Int} (hww : wide ≤ wide') {ws : List Int} (hw : ∀ x ∈ ws, 1 ≤ x ∧ x ≤ wide) : (greedy wide' ws).length ≤ (greedy wide ws).length := by
  have h1 := costs_greedy hw
  have h2 : 0 ≤ costs wide' ws (greedy wide ws) := costsGo_wider hww ws _ _ _ _ (by omega) h1
  rcases greedy_few (wide := wide') (ws := ws) (fun x hx => ⟨(hw x hx).1, by have := (hw x hx).2; omega⟩) (greedy wide ws) with h | h
  · omega
  · exact h
theorem best_more {wide : Int} {ws : List Int} (hw : ∀ x ∈ ws, 1 ≤ x ∧ x ≤ wide) (hb : 0 ≤ bestCost wide ws) : (greedy wide ws).length ≤ (best wide ws).length := by
  rcases greedy_few hw (best wide ws) with h | h
  · rw [costs_best hw] at h; omega
  · exact h

theorem costsGo_ge (wide : Int) (ws : List Int) : ∀ (r : List Int) (a : Nat) (sum : Int), 0 ≤ costsGo wide ws r a sum → sum ≤ costsGo wide ws r a sum := by
  intro r
  induction r with
  | nil => intro a sum h; unfold costsGo at h ⊢; split <;> simp_all
  | cons x r ih =>
    intro a sum h
    unfold costsGo at h ⊢
    split
    · rename_i hx
      rw [if_pos hx] at h
      split
      · rename_i hr; rw [if_pos hr] at h; omega
      · rename_i hr
        rw [if_neg hr] at h
        have h1 := ih _ _ h
        have := sq_nonneg (left wide ((ws.drop a).take x.toNat))
        split at h1 <;> rename_i hlt <;> simp only [hlt, if_true, if_false] at h1 ⊢ <;> omega
    · rename_i hx; rw [if_neg hx] at h; omega
theorem costsGo_inv {wide : Int} {ws r : List Int} {a : Nat} {x sum : Int} (h : 0 ≤ costsGo wide ws (x :: r) a sum) : ∃ X : Nat, x = X ∧ 1 ≤ X ∧ a + X ≤ ws.length ∧ ¬ left wide ((ws.drop a).take X) < 0 := by
  unfold costsGo at h
  split at h
  · rename_i hx
    split at h
    · omega
    · rename_i hr
      exact ⟨x.toNat, by omega, by omega, by omega, hr⟩
  · omega
theorem drop_last_line {ws : List Int} {a X : Nat} (h : a + X ≤ ws.length - 1) : ((ws.dropLast).drop a).take X = (ws.drop a).take X := by
  rw [List.dropLast_eq_take, List.drop_take, List.take_take, Nat.min_eq_left (by omega)]
theorem shorter {wide : Int} {ws : List Int} (hw : ∀ x ∈ ws, 1 ≤ x ∧ x ≤ wide) : ∀ (r : List Int) (a : Nat) (sum : Int), a + 1 ≤ ws.length → 0 ≤ sum → 0 ≤ costsGo wide ws r a sum →
    ∃ r', 0 ≤ costsGo wide ws.dropLast r' a sum ∧ costsGo wide ws.dropLast r' a sum ≤ costsGo wide ws r a sum := by
  intro r
  induction r with
  | nil =>
    intro a sum ha hs h
    unfold costsGo at h
    rw [if_neg (by omega)] at h
    omega
  | cons x r ih =>
    intro a sum ha hs h
    have hge := costsGo_ge wide ws (x :: r) a sum h
    obtain ⟨X, rfl, hx1, hx2, hr⟩ := costsGo_inv h
    rw [costsGo_cons hx1 hx2 hr] at h hge ⊢
    have hsq := sq_nonneg (left wide ((ws.drop a).take X))
    by_cases hlt : a + X < ws.length
    · rw [if_pos hlt] at h hge ⊢
      by_cases hlt2 : a + X + 1 < ws.length
      · obtain ⟨r', b1, b2⟩ := ih (a + X) _ (by omega) (by omega) h
        refine ⟨(X : Int) :: r', ?_⟩
        rw [costsGo_cons (by omega) (by simp; omega) (by rw [drop_last_line (by omega)]; exact hr), drop_last_line (by omega), if_pos (by simp; omega)]
        exact ⟨b1, b2⟩
      · refine ⟨[(X : Int)], ?_⟩
        rw [costsGo_cons (by omega) (by simp; omega) (by rw [drop_last_line (by omega)]; exact hr), if_neg (by simp; omega), costsGo_nil, if_pos (by simp; omega)]
        exact ⟨hs, hge⟩
    · rw [if_neg hlt] at h hge ⊢
      by_cases hX : X = 1
      · refine ⟨[], ?_⟩
        rw [costsGo_nil, if_pos (by simp; omega)]
        exact ⟨hs, hge⟩
      · refine ⟨[((X - 1 : Nat) : Int)], ?_⟩
        have hm := rm_mono hw a 1 (X - 1) (by omega)
        rw [Nat.sub_add_cancel (by omega)] at hm
        rw [costsGo_cons (by omega) (by simp; omega) (by rw [drop_last_line (by omega)]; show ¬ rm wide ws a (X - 1) < 0; have : ¬ rm wide ws a X < 0 := hr; omega), if_neg (by simp; omega), costsGo_nil, if_pos (by simp; omega)]
        exact ⟨hs, hge⟩
theorem C_nonneg {wide : Int} {ws : List Int} (hw : ∀ x ∈ ws, 1 ≤ x ∧ x ≤ wide) : ∀ (m i : Nat), ws.length ≤ i + m → i ≤ ws.length → 0 ≤ gi (tables wide ws).1 i := by
  obtain ⟨h0, hrow⟩ := tables_rows hw
  intro m
  induction m with
  | zero => intro i h1 h2; obtain rfl : i = ws.length := by omega
            omega
  | succ m ih =>
    intro i h1 h2
    by_cases hlt : i < ws.length
    · obtain ⟨t, a1, a2, a3, a4, a5, a6, a7⟩ := hrow i hlt
      have := ih (i + t) (by omega) (by omega)
      have := term_nonneg wide ws i t
      omega
    · obtain rfl : i = ws.length := by omega
      omega
theorem bestCost_nonneg {wide : Int} {ws : List Int} (hw : ∀ x ∈ ws, 1 ≤ x ∧ x ≤ wide) : 0 ≤ bestCost wide ws := C_nonneg hw ws.length 0 (by omega) (by omega)
theorem bestCost_less {wide : Int} {ws : List Int} (hw : ∀ x ∈ ws, 1 ≤ x ∧ x ≤ wide) (hne : 1 ≤ ws.length) : bestCost wide ws.dropLast ≤ bestCost wide ws := by
  have h1 := costs_best hw
  obtain ⟨r', b1, b2⟩ := shorter hw (best wide ws) 0 0 (by omega) (by omega) (by have := bestCost_nonneg hw; unfold costs at h1; omega)
  have hw' : ∀ x ∈ ws.dropLast, 1 ≤ x ∧ x ≤ wide := fun x hx => hw x (List.dropLast_subset _ hx)
  rcases costs_other hw' r' with h | h
  · unfold costs at h; omega
  · unfold costs at h h1; omega
theorem best_len (wide : Int) (ws : List Int) : (best wide ws).length ≤ ws.length := by
  have key : ∀ (T : List Int) (n f i : Nat), (bestFrom T n f i).length ≤ f := by
    intro T n f
    induction f with
    | zero => intro i; simp [bestFrom]
    | succ f ih =>
      intro i
      unfold bestFrom
      split
      · have := ih (i + (gi T i).toNat); simp; omega
      · simp
  unfold best; rw [out_eq]; simpa using key _ _ _ _
theorem greedyFrom_len (wide : Int) (ws : List Int) : ∀ f i : Nat, (greedyFrom wide ws f i).length ≤ f := by
  intro f
  induction f with
  | zero => intro i; simp [greedyFrom]
  | succ f ih =>
    intro i
    unfold greedyFrom
    split
    · have := ih (i + gw wide ws i); simp; omega
    · simp
theorem greedy_len (wide : Int) (ws : List Int) : (greedy wide ws).length ≤ ws.length := by rw [greedy_eq]; exact greedyFrom_len _ _ _ _
theorem greedy_drop {wide : Int} {ws m : List Int} (hw : ∀ x ∈ ws, 1 ≤ x ∧ x ≤ wide) {i f a : Nat} (h : m.drop i = greedyFrom wide ws f a) (hi : i + 1 < m.length) (hf : ws.length ≤ a + f) :
    a < ws.length ∧ gi m i = gw wide ws a ∧ 1 ≤ gw wide ws a ∧ a + gw wide ws a < ws.length ∧ left wide ((ws.drop a).take (gw wide ws a + 1)) < 0 ∧ ∃ f', m.drop (i + 1) = greedyFrom wide ws f' (a + gw wide ws a) ∧ ws.length ≤ a + gw wide ws a + f' := by
  have hc := drop_gi (l := m) (k := i) (by omega)
  rw [hc] at h
  cases f with
  | zero => simp [greedyFrom] at h
  | succ f =>
    unfold greedyFrom at h
    split at h
    · rename_i hlt
      injection h with e1 e2
      obtain ⟨a1, a2, a3, a4⟩ := gw_spec hw a hlt
      have hlt2 : a + gw wide ws a < ws.length := by
        rcases Nat.lt_or_ge (a + gw wide ws a) ws.length with h' | h'
        · exact h'
        · exfalso
          have hl := congrArg List.length e2
          have h0 : (greedyFrom wide ws f (a + gw wide ws a)).length = 0 := by
            cases f with
            | zero => rfl
            | succ f => unfold greedyFrom; rw [if_neg (by omega)]; rfl
          rw [h0] at hl
          simp at hl; omega
      exact ⟨hlt, e1, a1, hlt2, a4 hlt2, f, e2, by omega⟩
    · simp at h
end Go.Proofs.YtikkcjclhalhgaaDoor.LinesM
