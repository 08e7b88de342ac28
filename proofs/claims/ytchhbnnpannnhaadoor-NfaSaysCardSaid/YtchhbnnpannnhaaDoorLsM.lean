/- Machines that are in one state at a time, and the least one, in plain Lean. No condition. -/
import Derived.Test.YtchhbnnpannnhaaDoorPlain
namespace Go.Proofs.YtchhbnnpannnhaaDoor
set_option linter.unusedVariables false

/-- The i-th row, the i-th truth of a list. -/
def ro (l : List (List Int)) (i : Nat) : List Int := l[i]?.getD []
def bo (l : List Bool) (i : Nat) : Bool := l[i]?.getD false
theorem ro_eq {l : List (List Int)} {k : Nat} (h : k < l.length) : ro l k = l[k] := by unfold ro; rw [List.getElem?_eq_getElem h]; rfl
theorem bo_eq {l : List Bool} {k : Nat} (h : k < l.length) : bo l k = l[k] := by unfold bo; rw [List.getElem?_eq_getElem h]; rfl
theorem ro_mem {l : List (List Int)} {k : Nat} (h : k < l.length) : ro l k ∈ l := by rw [ro_eq h]; exact List.getElem_mem h
theorem drop_ro {l : List (List Int)} {k : Nat} (h : k < l.length) : l.drop k = ro l k :: l.drop (k + 1) := by rw [List.drop_eq_getElem_cons h, ro_eq h]
theorem take_succ_ro {l : List (List Int)} {k : Nat} (h : k < l.length) : l.take (k + 1) = l.take k ++ [ro l k] := by rw [List.take_succ_eq_append_getElem h, ro_eq h]
theorem take_succ_bo {l : List Bool} {k : Nat} (h : k < l.length) : l.take (k + 1) = l.take k ++ [bo l k] := by rw [List.take_succ_eq_append_getElem h, bo_eq h]

/-- A machine as it is handed over. -/
structure Mc where
  sg : List UInt8
  nx : List (List Int)
  tk : List Bool
abbrev Mc.n (M : Mc) : Nat := M.nx.length
abbrev Mc.s (M : Mc) : Nat := M.sg.length
/-- Where a sign leads. -/
def Mc.st (M : Mc) (i c : Nat) : Nat := (gi (ro M.nx i) c).toNat
structure Mc.Ok (M : Mc) : Prop where
  pos : 0 < M.n
  small : M.n ≤ 1000
  few : M.s ≤ 12
  tak : M.tk.length = M.n
  rise : ∀ i, i + 1 < M.s → bu M.sg i < bu M.sg (i + 1)
  row : ∀ i, i < M.n → (ro M.nx i).length = M.s
  rng : ∀ i c, i < M.n → c < M.s → 0 ≤ gi (ro M.nx i) c ∧ gi (ro M.nx i) c < M.n
theorem Mc.Ok.st_lt {M : Mc} (h : M.Ok) {i c : Nat} (hi : i < M.n) (hc : c < M.s) : M.st i c < M.n := by
  have := h.rng i c hi hc
  unfold Mc.st; omega
theorem Mc.Ok.st_eq {M : Mc} (h : M.Ok) {i c : Nat} (hi : i < M.n) (hc : c < M.s) : gi (ro M.nx i) c = (M.st i c : Int) := by
  have := h.rng i c hi hc
  unfold Mc.st; omega
/-- Where signs lead, by their places. -/
def Mc.lead (M : Mc) : Nat → List Nat → Nat
  | i, [] => i
  | i, c :: w => M.lead (M.st i c) w
def Mc.Wd (M : Mc) (w : List Nat) : Prop := ∀ c ∈ w, c < M.s
theorem Mc.lead_app (M : Mc) (i : Nat) (u w : List Nat) : M.lead i (u ++ w) = M.lead (M.lead i u) w := by
  induction u generalizing i with
  | nil => rfl
  | cons c u ih => exact ih _
theorem Mc.Ok.lead_lt {M : Mc} (h : M.Ok) {w : List Nat} : ∀ {i : Nat}, i < M.n → M.Wd w → M.lead i w < M.n := by
  induction w with
  | nil => intro i hi _; exact hi
  | cons c w ih => intro i hi hw; exact ih (h.st_lt hi (hw c (List.mem_cons_self ..))) fun d hd => hw d (List.mem_cons_of_mem _ hd)
/-- Nothing tells two states apart. -/
def Mc.Eqv (M : Mc) (i k : Nat) : Prop := ∀ w, M.Wd w → bo M.tk (M.lead i w) = bo M.tk (M.lead k w)
theorem Mc.Eqv.refl (M : Mc) (i : Nat) : M.Eqv i i := fun _ _ => rfl
theorem Mc.Eqv.symm {M : Mc} {i k : Nat} (h : M.Eqv i k) : M.Eqv k i := fun w hw => (h w hw).symm
theorem Mc.Eqv.trans {M : Mc} {i k l : Nat} (h : M.Eqv i k) (h' : M.Eqv k l) : M.Eqv i l := fun w hw => (h w hw).trans (h' w hw)
theorem Mc.Eqv.tk {M : Mc} {i k : Nat} (h : M.Eqv i k) : bo M.tk i = bo M.tk k := h [] (fun _ h => by cases h)
theorem Mc.Eqv.st {M : Mc} {i k c : Nat} (h : M.Eqv i k) (hc : c < M.s) : M.Eqv (M.st i c) (M.st k c) := fun w hw => h (c :: w) fun d hd => by
  rcases List.mem_cons.1 hd with rfl | hd
  · exact hc
  · exact hw d hd
theorem Mc.Eqv.lead {M : Mc} {w : List Nat} : ∀ {i k : Nat}, M.Eqv i k → M.Wd w → M.Eqv (M.lead i w) (M.lead k w) := by
  induction w with
  | nil => intro i k h _; exact h
  | cons c w ih => intro i k h hw; exact ih (h.st (hw c (List.mem_cons_self ..))) fun d hd => hw d (List.mem_cons_of_mem _ hd)
/-- A relation that goes with all signs and parts the taken from the others says that nothing tells apart. -/
theorem Mc.eqv_of {M : Mc} (h : M.Ok) {R : Nat → Nat → Prop} (ht : ∀ i k, i < M.n → k < M.n → R i k → bo M.tk i = bo M.tk k) (hs : ∀ i k c, i < M.n → k < M.n → c < M.s → R i k → R (M.st i c) (M.st k c)) {i k : Nat} (hi : i < M.n) (hk : k < M.n) (hr : R i k) : M.Eqv i k := by
  intro w
  induction w generalizing i k with
  | nil => intro _; exact ht i k hi hk hr
  | cons c w ih =>
    intro hw
    have hc := hw c (List.mem_cons_self ..)
    exact ih (h.st_lt hi hc) (h.st_lt hk hc) (hs i k c hi hk hc hr) fun d hd => hw d (List.mem_cons_of_mem _ hd)

/-! What is wrong with a machine. -/
def rangeB (n : Nat) (row : List Int) : Bool := row.all fun t => decide (0 ≤ t ∧ t < n)
def rowEM (n s : Nat) (row : List Int) : Int := if row.length = s then (if rangeB n row = true then 0 else 1) else 3
def rowsEM (n s : Nat) : List (List Int) → Int
  | [] => 0
  | r :: l => if rowEM n s r = 0 then rowsEM n s l else rowEM n s r
def riseB : List UInt8 → Bool
  | [] => true
  | [_] => true
  | a :: b :: l => decide (a < b) && riseB (b :: l)
def Mc.wrong (M : Mc) : Int := if M.n = 0 then 5 else if 1000 < M.n ∨ 12 < M.s then 4 else if M.tk.length ≠ M.n then 3 else if riseB M.sg = true then rowsEM M.n M.s M.nx else 6
theorem riseB_iff : ∀ l : List UInt8, riseB l = true ↔ ∀ i, i + 1 < l.length → bu l i < bu l (i + 1)
  | [] => by simp [riseB]
  | [_] => by simp [riseB]
  | a :: b :: l => by
    have ih := riseB_iff (b :: l)
    unfold riseB
    rw [Bool.and_eq_true, decide_eq_true_iff, ih]
    constructor
    · rintro ⟨h1, h2⟩ i hi
      cases i with
      | zero => exact h1
      | succ i => exact h2 i (by simpa using hi)
    · intro h
      exact ⟨h 0 (by simp), fun i hi => h (i + 1) (by simpa using hi)⟩
theorem rangeB_iff {n : Nat} {row : List Int} : rangeB n row = true ↔ ∀ c, c < row.length → 0 ≤ gi row c ∧ gi row c < n := by
  unfold rangeB
  rw [List.all_eq_true]
  constructor
  · intro h c hc; simpa using h _ (gi_mem hc)
  · intro h x hx
    obtain ⟨c, hc, rfl⟩ := List.getElem_of_mem hx
    have := h c hc
    rw [gi_eq hc] at this
    simpa using this
theorem rowEM_zero {n s : Nat} {row : List Int} : rowEM n s row = 0 ↔ row.length = s ∧ rangeB n row = true := by
  unfold rowEM
  by_cases h : row.length = s
  · rw [if_pos h]
    by_cases h2 : rangeB n row = true
    · rw [if_pos h2]; exact ⟨fun _ => ⟨h, h2⟩, fun _ => rfl⟩
    · rw [if_neg h2]; exact ⟨fun h => absurd h (by decide), fun h => absurd h.2 h2⟩
  · rw [if_neg h]; exact ⟨fun h => absurd h (by decide), fun h' => absurd h'.1 h⟩
theorem rowsEM_zero {n s : Nat} : ∀ {l : List (List Int)}, rowsEM n s l = 0 ↔ ∀ i, i < l.length → rowEM n s (ro l i) = 0
  | [] => by simp [rowsEM]
  | r :: l => by
    unfold rowsEM
    by_cases h : rowEM n s r = 0
    · rw [if_pos h, rowsEM_zero (l := l)]
      constructor
      · intro h2 i hi
        cases i with
        | zero => exact h
        | succ i => exact h2 i (by simpa using hi)
      · intro h2 i hi; exact h2 (i + 1) (by simpa using hi)
    · rw [if_neg h]
      exact ⟨fun h' => absurd h' h, fun h' => h' 0 (by simp)⟩
theorem Mc.wrong_zero {M : Mc} : M.wrong = 0 ↔ M.Ok := by
  unfold Mc.wrong
  by_cases h1 : M.n = 0
  · rw [if_pos h1]; exact ⟨fun h => absurd h (by decide), fun h => by have := h.pos; omega⟩
  rw [if_neg h1]
  by_cases h2 : 1000 < M.n ∨ 12 < M.s
  · rw [if_pos h2]; exact ⟨fun h => absurd h (by decide), fun h => by have := h.small; have := h.few; omega⟩
  rw [if_neg h2]
  by_cases h3 : M.tk.length ≠ M.n
  · rw [if_pos h3]; exact ⟨fun h => absurd h (by decide), fun h => absurd h.tak h3⟩
  rw [if_neg h3]
  by_cases h4 : riseB M.sg = true
  · rw [if_pos h4, rowsEM_zero]
    constructor
    · intro h
      refine ⟨by omega, by omega, by omega, by omega, (riseB_iff _).1 h4, fun i hi => (rowEM_zero.1 (h i hi)).1, fun i c hi hc => ?_⟩
      obtain ⟨a, b⟩ := rowEM_zero.1 (h i hi)
      exact rangeB_iff.1 b c (by rw [a]; exact hc)
    · intro h i hi
      exact rowEM_zero.2 ⟨h.row i hi, rangeB_iff.2 fun c hc => h.rng i c hi (by rw [← h.row i hi]; exact hc)⟩
  · rw [if_neg h4]; exact ⟨fun h => absurd h (by decide), fun h => absurd ((riseB_iff _).2 h.rise) h4⟩

/-! How many different values a function has below n. -/
def isNew {α : Type} [DecidableEq α] (f : Nat → α) (i : Nat) : Bool := (List.range i).all fun j => decide (f j ≠ f i)
theorem isNew_iff {α : Type} [DecidableEq α] {f : Nat → α} {i : Nat} : isNew f i = true ↔ ∀ j, j < i → f j ≠ f i := by
  unfold isNew; simp [List.all_eq_true]
def cnt {α : Type} [DecidableEq α] (f : Nat → α) : Nat → Nat
  | 0 => 0
  | n + 1 => cnt f n + if isNew f n = true then 1 else 0
theorem cnt_le {α : Type} [DecidableEq α] (f : Nat → α) : ∀ n, cnt f n ≤ n
  | 0 => Nat.le_refl _
  | n + 1 => by have := cnt_le f n; unfold cnt; split <;> omega
theorem cnt_pos {α : Type} [DecidableEq α] (f : Nat → α) : ∀ n, 0 < n → 0 < cnt f n
  | 1, _ => by simp [cnt, isNew]
  | n + 2, _ => by have := cnt_pos f (n + 1) (by omega); unfold cnt; omega
section
variable {α β : Type} [DecidableEq α] [DecidableEq β] {f : Nat → α} {g : Nat → β} {N : Nat}
theorem new_mono (h : ∀ i k, i < N → k < N → g i = g k → f i = f k) {i : Nat} (hi : i < N) (hn : isNew f i = true) : isNew g i = true :=
  isNew_iff.2 fun j hj e => isNew_iff.1 hn j hj (h j i (by omega) hi e)
theorem cnt_mono (h : ∀ i k, i < N → k < N → g i = g k → f i = f k) : ∀ n, n ≤ N → cnt f n ≤ cnt g n
  | 0, _ => Nat.le_refl _
  | n + 1, hn => by
    have ih := cnt_mono h n (by omega)
    unfold cnt
    by_cases h1 : isNew f n = true
    · rw [if_pos h1, if_pos (new_mono h (by omega) h1)]; omega
    · rw [if_neg h1]; omega
theorem cnt_same_new (h : ∀ i k, i < N → k < N → g i = g k → f i = f k) : ∀ n, n ≤ N → cnt f n = cnt g n → ∀ i, i < n → isNew g i = true → isNew f i = true
  | 0, _, _, i, hi => absurd hi (by omega)
  | n + 1, hn, he, i, hi => by
    have hm := cnt_mono h n (by omega)
    unfold cnt at he
    by_cases h1 : isNew f n = true
    · have h2 := new_mono h (by omega) h1
      rw [if_pos h1, if_pos h2] at he
      intro hg
      rcases Nat.lt_or_ge i n with hl | hl
      · exact cnt_same_new h n (by omega) (by omega) i hl hg
      · obtain rfl : i = n := by omega
        exact h1
    · rw [if_neg h1] at he
      by_cases h2 : isNew g n = true
      · rw [if_pos h2] at he; omega
      · rw [if_neg h2] at he
        intro hg
        rcases Nat.lt_or_ge i n with hl | hl
        · exact cnt_same_new h n (by omega) (by omega) i hl hg
        · obtain rfl : i = n := by omega
          exact absurd hg h2
/-- As many values: the same parting. -/
theorem cnt_same (h : ∀ i k, i < N → k < N → g i = g k → f i = f k) (he : cnt f N = cnt g N) : ∀ k i, k < N → i ≤ k → f i = f k → g i = g k := by
  have hnew := cnt_same_new h N (Nat.le_refl _) he
  -- each has the g of the first one with its f
  have first : ∀ k, k < N → ∃ j, j ≤ k ∧ isNew f j = true ∧ f j = f k ∧ g j = g k := by
    intro k
    induction k using Nat.strongRecOn with
    | ind k ih =>
      intro hk
      by_cases h1 : isNew g k = true
      · exact ⟨k, Nat.le_refl _, hnew k hk h1, rfl, rfl⟩
      · have : ∃ j, j < k ∧ g j = g k := by
          apply Classical.byContradiction
          intro hno
          exact h1 (isNew_iff.2 fun j hj e => hno ⟨j, hj, e⟩)
        obtain ⟨j, hj, e⟩ := this
        obtain ⟨j2, h2, h3, h4, h5⟩ := ih j hj (by omega)
        exact ⟨j2, by omega, h3, h4.trans (h j k (by omega) hk e), h5.trans e⟩
  intro k i hk hik hf
  obtain ⟨a, ha, ha1, ha2, ha3⟩ := first i (by omega)
  obtain ⟨b, hb, hb1, hb2, hb3⟩ := first k hk
  have hab : f a = f b := by rw [ha2, hb2, hf]
  have : a = b := by
    rcases Nat.lt_trichotomy a b with hl | hl | hl
    · exact absurd hab (isNew_iff.1 hb1 a hl)
    · exact hl
    · exact absurd hab.symm (isNew_iff.1 ha1 b hl)
  subst this
  rw [← ha3, hb3]
theorem cnt_same' (h : ∀ i k, i < N → k < N → g i = g k → f i = f k) (he : cnt f N = cnt g N) {i k : Nat} (hi : i < N) (hk : k < N) (hf : f i = f k) : g i = g k := by
  rcases Nat.le_total i k with hl | hl
  · exact cnt_same h he k i hk hl hf
  · exact (cnt_same h he i k hi hl hf.symm).symm
end

/-! One round of parting. -/
/-- What tells a state: its class, and those where it leads. -/
def Mc.key (M : Mc) (C : List Int) (i : Nat) : List Int := gi C i :: (ro M.nx i).map fun t => gi C t.toNat
/-- The keys met in the first i states. -/
def Mc.keysI (M : Mc) (C : List Int) : Nat → List (List Int)
  | 0 => []
  | i + 1 => if M.key C i ∈ M.keysI C i then M.keysI C i else M.keysI C i ++ [M.key C i]
def Mc.atI (M : Mc) (C : List Int) (i : Nat) : Nat := (M.keysI C i).idxOf (M.key C i)
def Mc.nextC (M : Mc) (C : List Int) : List Int := (List.range M.n).map fun i => (M.atI C i : Int)
theorem Mc.keysI_mem {M : Mc} {C : List Int} {x : List Int} : ∀ {i}, x ∈ M.keysI C i ↔ ∃ j, j < i ∧ M.key C j = x
  | 0 => by simp [Mc.keysI]
  | i + 1 => by
    unfold Mc.keysI
    have ih := Mc.keysI_mem (M := M) (C := C) (x := x) (i := i)
    split
    · rename_i hm
      rw [ih]
      constructor
      · rintro ⟨j, hj, e⟩; exact ⟨j, by omega, e⟩
      · rintro ⟨j, hj, e⟩
        rcases Nat.lt_or_ge j i with hl | hl
        · exact ⟨j, hl, e⟩
        · obtain rfl : j = i := by omega
          subst e
          exact ih.1 hm
    · rw [List.mem_append, ih, List.mem_singleton]
      constructor
      · rintro (⟨j, hj, e⟩ | rfl)
        · exact ⟨j, by omega, e⟩
        · exact ⟨i, by omega, rfl⟩
      · rintro ⟨j, hj, e⟩
        rcases Nat.lt_or_ge j i with hl | hl
        · exact .inl ⟨j, hl, e⟩
        · obtain rfl : j = i := by omega
          exact .inr e.symm
theorem Mc.keysI_len (M : Mc) (C : List Int) : ∀ i, (M.keysI C i).length = cnt (M.key C) i
  | 0 => rfl
  | i + 1 => by
    unfold Mc.keysI cnt
    have hm := Mc.keysI_mem (M := M) (C := C) (x := M.key C i) (i := i)
    by_cases h : M.key C i ∈ M.keysI C i
    · rw [if_pos h, if_neg, Mc.keysI_len]; · rfl
      intro hn
      obtain ⟨j, hj, e⟩ := hm.1 h
      exact isNew_iff.1 hn j hj e
    · rw [if_neg h, if_pos, List.length_append, Mc.keysI_len]; · rfl
      exact isNew_iff.2 fun j hj e => h (hm.2 ⟨j, hj, e⟩)
theorem Mc.keysI_pre (M : Mc) (C : List Int) : ∀ i k, i ≤ k → ∃ l, M.keysI C k = M.keysI C i ++ l
  | i, 0, h => ⟨[], by obtain rfl : i = 0 := by omega
                       simp⟩
  | i, k + 1, h => by
    rcases Nat.lt_or_ge k i with hl | hl
    · obtain rfl : i = k + 1 := by omega
      exact ⟨[], by simp⟩
    · obtain ⟨l, hl'⟩ := Mc.keysI_pre M C i k hl
      rw [show M.keysI C (k + 1) = if M.key C k ∈ M.keysI C k then M.keysI C k else M.keysI C k ++ [M.key C k] from rfl]
      split
      · exact ⟨l, hl'⟩
      · exact ⟨l ++ [M.key C k], by rw [hl', List.append_assoc]⟩
/-- The place of a state's key does not turn any more. -/
theorem Mc.atI_get {M : Mc} {C : List Int} {i n : Nat} (hi : i < n) : (M.keysI C n)[M.atI C i]? = some (M.key C i) := by
  have h1 : (M.keysI C (i + 1))[M.atI C i]? = some (M.key C i) := by
    unfold Mc.atI
    rw [show M.keysI C (i + 1) = if M.key C i ∈ M.keysI C i then M.keysI C i else M.keysI C i ++ [M.key C i] from rfl]
    split
    · rename_i hm
      have := List.idxOf_lt_length_of_mem hm
      rw [List.getElem?_eq_getElem this, List.getElem_idxOf this]
    · rename_i hm
      rw [List.idxOf_eq_length hm]
      simp
  obtain ⟨l, hl⟩ := M.keysI_pre C (i + 1) n (by omega)
  rw [hl, List.getElem?_append_left (List.getElem?_eq_some_iff.1 h1).1]
  exact h1
theorem Mc.keysI_nodup (M : Mc) (C : List Int) : ∀ i, (M.keysI C i).Nodup
  | 0 => by simp [Mc.keysI]
  | i + 1 => by
    unfold Mc.keysI
    have ih := Mc.keysI_nodup M C i
    split
    · exact ih
    · rename_i hm
      rw [List.nodup_append]
      exact ⟨ih, by simp, fun a ha b hb => by rw [List.mem_singleton.1 hb]; intro e; exact hm (e ▸ ha)⟩
theorem Mc.atI_inj {M : Mc} {C : List Int} {i k : Nat} : M.atI C i = M.atI C k ↔ M.key C i = M.key C k := by
  have h1 := Mc.atI_get (M := M) (C := C) (i := i) (n := max i k + 1) (by omega)
  have h2 := Mc.atI_get (M := M) (C := C) (i := k) (n := max i k + 1) (by omega)
  constructor
  · intro h
    rw [h] at h1
    exact Option.some.inj (h1.symm.trans h2)
  · intro h
    rw [h, ← h2] at h1
    have hl := (List.getElem?_eq_some_iff.1 h2).1
    obtain ⟨hl1, _⟩ := List.getElem?_eq_some_iff.1 (h1.trans h2)
    exact (List.getElem?_inj hl1 (M.keysI_nodup C _)).1 h1
theorem Mc.nextC_len (M : Mc) (C : List Int) : (M.nextC C).length = M.n := by unfold Mc.nextC; simp
theorem Mc.nextC_gi {M : Mc} {C : List Int} {i : Nat} (hi : i < M.n) : gi (M.nextC C) i = (M.atI C i : Int) := by
  unfold Mc.nextC gi
  rw [List.getElem?_map, List.getElem?_range hi]
  rfl
/-- Two states in one class. -/
def sm (C : List Int) (i k : Nat) : Prop := gi C i = gi C k
theorem Mc.sm_next {M : Mc} (hM : M.Ok) {C : List Int} {i k : Nat} (hi : i < M.n) (hk : k < M.n) : sm (M.nextC C) i k ↔ sm C i k ∧ ∀ c, c < M.s → sm C (M.st i c) (M.st k c) := by
  unfold sm
  rw [Mc.nextC_gi hi, Mc.nextC_gi hk]
  constructor
  · intro h
    have h := Mc.atI_inj.1 (by omega : M.atI C i = M.atI C k)
    unfold Mc.key at h
    injection h with h1 h2
    refine ⟨h1, fun c hc => ?_⟩
    have h3 := congrArg (fun l => gi l c) h2
    have e : ∀ j, j < M.n → gi ((ro M.nx j).map fun t => gi C t.toNat) c = gi C (M.st j c) := by
      intro j hj
      have hl : c < (ro M.nx j).length := by rw [hM.row j hj]; exact hc
      unfold Mc.st
      rw [gi_eq (by rw [List.length_map]; exact hl), List.getElem_map, gi_eq hl]
    rw [← e i hi, ← e k hk]; exact h3
  · rintro ⟨h1, h2⟩
    have : M.key C i = M.key C k := by
      unfold Mc.key
      rw [h1]
      congr 1
      refine List.ext_getElem (by rw [List.length_map, List.length_map, hM.row i hi, hM.row k hk]) fun c h3 h4 => ?_
      have hc : c < M.s := by rw [List.length_map, hM.row i hi] at h3; exact h3
      have := h2 c hc
      unfold Mc.st at this
      rw [List.getElem_map, List.getElem_map]
      rw [gi_eq (l := ro M.nx i) (k := c) (by rw [hM.row i hi]; exact hc), gi_eq (l := ro M.nx k) (k := c) (by rw [hM.row k hk]; exact hc)] at this
      exact this
    rw [Mc.atI_inj.2 this]
/-- The classes at first, and behind r rounds. -/
def Mc.class0 (M : Mc) : List Int := (List.range M.n).map fun i => if bo M.tk i = true then 1 else 0
def Mc.classR (M : Mc) : Nat → List Int
  | 0 => M.class0
  | r + 1 => M.nextC (M.classR r)
theorem Mc.class0_gi {M : Mc} {i : Nat} (hi : i < M.n) : gi M.class0 i = if bo M.tk i = true then 1 else 0 := by
  unfold Mc.class0 gi
  rw [List.getElem?_map, List.getElem?_range hi]; rfl
theorem Mc.sm_tk {M : Mc} (hM : M.Ok) {i k : Nat} (hi : i < M.n) (hk : k < M.n) : ∀ r, sm (M.classR r) i k → bo M.tk i = bo M.tk k
  | 0, h => by
    unfold sm Mc.classR at h
    rw [Mc.class0_gi hi, Mc.class0_gi hk] at h
    cases h1 : bo M.tk i <;> cases h2 : bo M.tk k <;> simp_all
  | r + 1, h => Mc.sm_tk hM hi hk r ((Mc.sm_next hM hi hk).1 h).1
theorem Mc.eqv_sm {M : Mc} (hM : M.Ok) : ∀ r {i k : Nat}, i < M.n → k < M.n → M.Eqv i k → sm (M.classR r) i k
  | 0, i, k, hi, hk, h => by
    unfold sm Mc.classR
    rw [Mc.class0_gi hi, Mc.class0_gi hk, h.tk]
  | r + 1, i, k, hi, hk, h => (Mc.sm_next hM hi hk).2 ⟨Mc.eqv_sm hM r hi hk h, fun c hc => Mc.eqv_sm hM r (hM.st_lt hi hc) (hM.st_lt hk hc) (h.st hc)⟩
/-- How many keys a round finds. -/
def Mc.many (M : Mc) (r : Nat) : Nat := cnt (M.key (M.classR r)) M.n
theorem Mc.key_sm {M : Mc} {r i k : Nat} (hi : i < M.n) (hk : k < M.n) : M.key (M.classR r) i = M.key (M.classR r) k ↔ sm (M.classR (r + 1)) i k := by
  show _ ↔ gi (M.nextC (M.classR r)) i = gi (M.nextC (M.classR r)) k
  rw [Mc.nextC_gi hi, Mc.nextC_gi hk, ← Mc.atI_inj]
  omega
theorem Mc.key_finer {M : Mc} (hM : M.Ok) (r : Nat) : ∀ i k, i < M.n → k < M.n → M.key (M.classR (r + 1)) i = M.key (M.classR (r + 1)) k → M.key (M.classR r) i = M.key (M.classR r) k :=
  fun i k hi hk h => (Mc.key_sm hi hk).2 ((Mc.sm_next hM hi hk).1 ((Mc.key_sm hi hk).1 h)).1
theorem Mc.many_mono {M : Mc} (hM : M.Ok) (r : Nat) : M.many r ≤ M.many (r + 1) := cnt_mono (Mc.key_finer hM r) _ (Nat.le_refl _)
/-- As many keys as a round before: nothing tells apart what is in one class. -/
theorem Mc.sm_eqv {M : Mc} (hM : M.Ok) {r : Nat} (h : M.many r = M.many (r + 1)) {i k : Nat} (hi : i < M.n) (hk : k < M.n) : sm (M.classR (r + 2)) i k ↔ M.Eqv i k := by
  have up : ∀ i k, i < M.n → k < M.n → sm (M.classR (r + 1)) i k → sm (M.classR (r + 2)) i k := fun i k hi hk hs =>
    (Mc.key_sm hi hk).1 (cnt_same' (Mc.key_finer hM r) h hi hk ((Mc.key_sm hi hk).2 hs))
  constructor
  · intro hs
    refine Mc.eqv_of hM (R := sm (M.classR (r + 1))) (fun i k hi hk h => Mc.sm_tk hM hi hk _ h) (fun i k c hi hk hc h => ((Mc.sm_next hM hi hk).1 (up i k hi hk h)).2 c hc) hi hk ((Mc.sm_next hM hi hk).1 hs).1
  · exact Mc.eqv_sm hM _ hi hk
end Go.Proofs.YtchhbnnpannnhaaDoor
