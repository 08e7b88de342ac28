/- Which pairs of states something tells apart, found by looking again and again, in plain Lean. No condition. -/
import Derived.Test.YtfglajddibjnjaaDoorLsP
namespace Go.Proofs.YtfglajddibjnjaaDoor
set_option linter.unusedVariables false

def br (A : List (List Bool)) (i : Nat) : List Bool := A[i]?.getD []
def bb (A : List (List Bool)) (i k : Nat) : Bool := bo (br A i) k
def setB (A : List (List Bool)) (i k : Nat) : List (List Bool) := A.set i ((br A i).set k true)
structure Dim (n : Nat) (A : List (List Bool)) : Prop where
  len : A.length = n
  row : ∀ i, i < n → (br A i).length = n
theorem br_set {A : List (List Bool)} {i k j : Nat} (hi : i < A.length) : br (setB A i k) j = if j = i then (br A i).set k true else br A j := by
  unfold br setB
  rw [List.getElem?_set]
  by_cases h : i = j
  · subst h; rw [if_pos rfl, if_pos rfl, if_pos hi]; rfl
  · rw [if_neg h, if_neg (fun e => h e.symm)]
theorem bo_set {l : List Bool} {k j : Nat} (hk : k < l.length) : bo (l.set k true) j = if j = k then true else bo l j := by
  unfold bo
  rw [List.getElem?_set]
  by_cases h : k = j
  · subst h; rw [if_pos rfl, if_pos rfl, if_pos hk]; rfl
  · rw [if_neg h, if_neg (fun e => h e.symm)]
theorem Dim.set {n : Nat} {A : List (List Bool)} (h : Dim n A) {i k : Nat} (hi : i < n) : Dim n (setB A i k) := by
  refine ⟨by unfold setB; rw [List.length_set]; exact h.len, fun j hj => ?_⟩
  rw [br_set (by rw [h.len]; exact hi)]
  split
  · rw [List.length_set]; exact h.row i hi
  · exact h.row j hj
theorem Dim.bb_set {n : Nat} {A : List (List Bool)} (h : Dim n A) {i k : Nat} (hi : i < n) (hk : k < n) (a b : Nat) : bb (setB A i k) a b = if a = i ∧ b = k then true else bb A a b := by
  unfold bb
  rw [br_set (by rw [h.len]; exact hi)]
  by_cases ha : a = i
  · subst ha
    rw [if_pos rfl, bo_set (by rw [h.row a hi]; exact hk)]
    by_cases hb : b = k
    · rw [if_pos hb, if_pos ⟨rfl, hb⟩]
    · rw [if_neg hb, if_neg (fun h => hb h.2)]
  · rw [if_neg ha, if_neg (fun h => ha h.1)]
/-- How many are not set. -/
def unset (A : List (List Bool)) : Nat := (A.map fun r => r.count false).sum
theorem count_set : ∀ {l : List Bool} {k : Nat}, k < l.length → bo l k = false → (l.set k true).count false + 1 = l.count false
  | [], k, h, _ => absurd h (by simp)
  | b :: l, 0, _, hb => by
    have : b = false := by simpa [bo] using hb
    subst this
    simp
  | b :: l, k + 1, h, hb => by
    have ih := count_set (l := l) (k := k) (by simpa using h) (by simpa [bo] using hb)
    rw [List.set_cons_succ, List.count_cons, List.count_cons]
    omega
theorem sum_set : ∀ {l : List Nat} {i x : Nat} (h : i < l.length), x + 1 = l[i] → (l.set i x).sum + 1 = l.sum
  | [], i, x, h, _ => absurd h (by simp)
  | a :: l, 0, x, _, e => by
    have e : x + 1 = a := e
    simp; omega
  | a :: l, i + 1, x, h, e => by
    have ih := sum_set (l := l) (i := i) (x := x) (by simpa using h) (by simpa using e)
    simp; omega
theorem unset_set {n : Nat} {A : List (List Bool)} (h : Dim n A) {i k : Nat} (hi : i < n) (hk : k < n) (hb : bb A i k = false) : unset (setB A i k) + 1 = unset A := by
  unfold unset setB
  rw [List.map_set]
  have hl : i < A.length := by rw [h.len]; exact hi
  refine sum_set (by rw [List.length_map]; exact hl) ?_
  rw [List.getElem_map]
  have e : A[i] = br A i := by unfold br; rw [List.getElem?_eq_getElem hl]; rfl
  rw [e]
  exact count_set (by rw [h.row i hi]; exact hk) hb
/-- What holds while looking. -/
structure Tl (M : Mc) (A : List (List Bool)) : Prop where
  dim : Dim M.n A
  snd : ∀ i k, i < M.n → k < M.n → bb A i k = true → ¬ M.Eqv i k
  tks : ∀ i k, i < M.n → k < M.n → bo M.tk i ≠ bo M.tk k → bb A i k = true
theorem Tl.set {M : Mc} (hM : M.Ok) {A : List (List Bool)} (h : Tl M A) {i k c : Nat} (hi : i < M.n) (hk : k < M.n) (hc : c < M.s) (hb : bb A (M.st i c) (M.st k c) = true) : Tl M (setB A i k) := by
  refine ⟨h.dim.set hi, fun a b ha hb' h2 => ?_, fun a b ha hb' h2 => ?_⟩
  · rw [h.dim.bb_set hi hk] at h2
    by_cases e : a = i ∧ b = k
    · obtain ⟨rfl, rfl⟩ := e
      exact fun he => h.snd _ _ (hM.st_lt hi hc) (hM.st_lt hk hc) hb (he.st hc)
    · rw [if_neg e] at h2; exact h.snd a b ha hb' h2
  · rw [h.dim.bb_set hi hk]
    split
    · rfl
    · exact h.tks a b ha hb' h2
/-- Nothing more was found in a whole round: all is told. -/
def Quiet (M : Mc) (A : List (List Bool)) (i k c : Nat) : Prop :=
  ∀ i' k' c', (i' < i ∨ i' = i ∧ (k' < k ∨ k' = k ∧ c' < c)) → k' < M.n → c' < M.s → bb A i' k' = false → bb A (M.st i' c') (M.st k' c') = false
theorem Quiet.zero (M : Mc) (A : List (List Bool)) : Quiet M A 0 0 0 := fun _ _ _ h => by omega
theorem Quiet.c {M : Mc} {A : List (List Bool)} {i k c : Nat} (h : Quiet M A i k c) (hq : bb A i k = false → bb A (M.st i c) (M.st k c) = false) : Quiet M A i k (c + 1) := by
  intro i' k' c' hp hk hc hb
  by_cases e : i' = i ∧ k' = k ∧ c' = c
  · obtain ⟨rfl, rfl, rfl⟩ := e; exact hq hb
  · exact h i' k' c' (by omega) hk hc hb
theorem Quiet.k {M : Mc} {A : List (List Bool)} {i k : Nat} (h : Quiet M A i k M.s) : Quiet M A i (k + 1) 0 := by
  intro i' k' c' hp hk hc hb
  exact h i' k' c' (by omega) hk hc hb
theorem Quiet.i {M : Mc} {A : List (List Bool)} {i : Nat} (h : Quiet M A i M.n 0) : Quiet M A (i + 1) 0 0 := by
  intro i' k' c' hp hk hc hb
  exact h i' k' c' (by omega) hk hc hb
theorem Tl.fin {M : Mc} (hM : M.Ok) {A : List (List Bool)} (h : Tl M A) (hq : Quiet M A M.n 0 0) {i k : Nat} (hi : i < M.n) (hk : k < M.n) : bb A i k = !M.eqB i k := by
  have : bb A i k = false ↔ M.eqB i k = true := by
    rw [Mc.eqB_iff]
    constructor
    · intro hb
      refine Mc.eqv_of hM (R := fun a b => bb A a b = false) (fun a b ha hb' h2 => ?_) (fun a b c ha hb' hc h2 => hq a b c (by omega) hb' hc h2) hi hk hb
      apply Classical.byContradiction
      intro hne
      rw [h.tks a b ha hb' hne] at h2; cases h2
    · intro he
      cases hb : bb A i k with
      | false => rfl
      | true => exact absurd he (h.snd i k hi hk hb)
  cases h1 : bb A i k <;> cases h2 : M.eqB i k <;> simp_all
/-- The search for one met by what is told apart. -/
theorem idx_told {M : Mc} (hM : M.Ok) {A : List (List Bool)} (h : Tl M A) (hq : Quiet M A M.n 0 0) {met : List Nat} (hm : ∀ x ∈ met, x < M.n) {t : Nat} (ht : t < M.n) : idxE (fun i k => !bb A i k) met t = idxE M.eqB met t := by
  unfold idxE
  have : ∀ x ∈ met, (!bb A x t) = M.eqB x t := fun x hx => by rw [h.fin hM hq (hm x hx) ht, Bool.not_not]
  clear hm
  induction met with
  | nil => rfl
  | cons a l ih =>
    rw [List.findIdx_cons, List.findIdx_cons, ih fun x hx => this x (List.mem_cons_of_mem _ hx)]
    show (bif !bb A a t then 0 else _) = _
    rw [this a (List.mem_cons_self ..)]
end Go.Proofs.YtfglajddibjnjaaDoor
