/- The least machine, its states numbered as they are met, in plain Lean. No condition. -/
import Derived.Test.YtchhbnnpannnhaaLsM
namespace Go.Proofs.Ytchhbnnpannnhaa
set_option linter.unusedVariables false

/-- The first of those met that is the same (their number: none). -/
def idxE (E : Nat → Nat → Bool) (met : List Nat) (t : Nat) : Nat := met.findIdx fun m => E m t
/-- The first c signs of a state looked at: those met, and the row. -/
def rowG (M : Mc) (E : Nat → Nat → Bool) (i : Nat) (met : List Nat) : Nat → List Nat × List Int
  | 0 => (met, [])
  | c + 1 => (if idxE E (rowG M E i met c).1 (M.st i c) = (rowG M E i met c).1.length then (rowG M E i met c).1 ++ [M.st i c] else (rowG M E i met c).1, (rowG M E i met c).2 ++ [(idxE E (rowG M E i met c).1 (M.st i c) : Int)])
structure Bf where
  met : List Nat
  rows : List (List Int)
  tks : List Bool
/-- Behind so many rounds. -/
def bfs (M : Mc) (E : Nat → Nat → Bool) : Nat → Bf
  | 0 => ⟨[0], [], []⟩
  | a + 1 => if a < (bfs M E a).met.length then ⟨(rowG M E ((bfs M E a).met.getD a 0) (bfs M E a).met M.s).1, (bfs M E a).rows ++ [(rowG M E ((bfs M E a).met.getD a 0) (bfs M E a).met M.s).2], (bfs M E a).tks ++ [bo M.tk ((bfs M E a).met.getD a 0)]⟩ else bfs M E a
open Classical in
/-- Does nothing tell two states apart? -/
noncomputable def Mc.eqB (M : Mc) (i k : Nat) : Bool := decide (M.Eqv i k)
theorem Mc.eqB_iff {M : Mc} {i k : Nat} : M.eqB i k = true ↔ M.Eqv i k := by unfold Mc.eqB; simp
/-- The least machine. -/
noncomputable def Mc.least (M : Mc) : Mc := ⟨M.sg, (bfs M M.eqB M.n).rows, (bfs M M.eqB M.n).tks⟩

/-- Those met are states, and no two of them are the same. -/
structure MetOk (M : Mc) (met : List Nat) : Prop where
  lt : ∀ x ∈ met, x < M.n
  ne : met.Pairwise fun x y => ¬ M.Eqv x y
  fst : met.head? = some 0
theorem MetOk.pos {M : Mc} {met : List Nat} (h : MetOk M met) : 0 < met.length := by
  have := h.fst
  cases met with
  | nil => simp at this
  | cons => simp
theorem MetOk.zero {M : Mc} {met : List Nat} (h : MetOk M met) : met.getD 0 0 = 0 := by
  have := h.fst
  cases met with
  | nil => rfl
  | cons a l => simpa using this
theorem MetOk.at_lt {M : Mc} {met : List Nat} (hM : M.Ok) (h : MetOk M met) (j : Nat) : met.getD j 0 < M.n := by
  rw [List.getD_eq_getElem?_getD]
  rcases Nat.lt_or_ge j met.length with hl | hl
  · rw [List.getElem?_eq_getElem hl]; exact h.lt _ (List.getElem_mem hl)
  · rw [List.getElem?_eq_none hl]; exact hM.pos
theorem nodup_le : ∀ {n : Nat} {l : List Nat}, l.Nodup → (∀ x ∈ l, x < n) → l.length ≤ n
  | 0, l, _, hl => by
    cases l with
    | nil => simp
    | cons a l => exact absurd (hl a (List.mem_cons_self ..)) (by omega)
  | n + 1, l, hd, hl => by
    have h1 : (l.erase n).Nodup := hd.erase n
    have h2 : ∀ x ∈ l.erase n, x < n := fun x hx => by
      have := hl x (List.mem_of_mem_erase hx)
      have hne : x ≠ n := fun e => (hd.not_mem_erase (a := n)) (e ▸ hx)
      omega
    have h3 := nodup_le h1 h2
    by_cases hm : n ∈ l
    · rw [List.length_erase_of_mem hm] at h3; omega
    · rw [List.erase_of_not_mem hm] at h3; omega
theorem MetOk.nodup {M : Mc} {met : List Nat} (h : MetOk M met) : met.Nodup := h.ne.imp fun {a b} hn (e : a = b) => hn (by rw [e]; exact Mc.Eqv.refl M b)
theorem MetOk.len {M : Mc} {met : List Nat} (h : MetOk M met) : met.length ≤ M.n := nodup_le h.nodup h.lt
theorem MetOk.eq {M : Mc} {met : List Nat} (h : MetOk M met) {j k : Nat} (hj : j < met.length) (hk : k < met.length) (he : M.Eqv (met.getD j 0) (met.getD k 0)) : j = k := by
  rw [List.getD_eq_getElem?_getD, List.getElem?_eq_getElem hj, List.getD_eq_getElem?_getD, List.getElem?_eq_getElem hk] at he
  simp only [Option.getD_some] at he
  have hp := List.pairwise_iff_getElem.1 h.ne
  rcases Nat.lt_trichotomy j k with hl | hl | hl
  · exact absurd he (hp j k hj hk hl)
  · exact hl
  · exact absurd he.symm (hp k j hk hj hl)
theorem idxE_le (E : Nat → Nat → Bool) (met : List Nat) (t : Nat) : idxE E met t ≤ met.length := List.findIdx_le_length
theorem idxE_lt {E : Nat → Nat → Bool} {met : List Nat} {t : Nat} (h : idxE E met t < met.length) : E (met.getD (idxE E met t) 0) t = true := by
  have := List.findIdx_getElem (w := h)
  rw [List.getD_eq_getElem?_getD, List.getElem?_eq_getElem h]
  exact this
theorem idxE_all {E : Nat → Nat → Bool} {met : List Nat} {t : Nat} (h : idxE E met t = met.length) : ∀ m ∈ met, E m t = false := by
  intro m hm
  have := List.findIdx_eq_length.1 h m hm
  simpa using this
theorem MetOk.idx {M : Mc} {met : List Nat} (h : MetOk M met) {j t : Nat} (hj : j < met.length) (he : M.Eqv (met.getD j 0) t) : idxE M.eqB met t = j := by
  rcases Nat.lt_or_ge (idxE M.eqB met t) met.length with hl | hl
  · exact h.eq hl hj ((Mc.eqB_iff.1 (idxE_lt hl)).trans he.symm)
  · have h2 := idxE_all (Nat.le_antisymm (idxE_le _ _ _) hl) (met.getD j 0) (by rw [List.getD_eq_getElem?_getD, List.getElem?_eq_getElem hj]; exact List.getElem_mem hj)
    rw [Mc.eqB_iff.2 he] at h2; cases h2
theorem MetOk.add {M : Mc} {met : List Nat} (h : MetOk M met) {t : Nat} (ht : t < M.n) (hn : idxE M.eqB met t = met.length) : MetOk M (met ++ [t]) := by
  refine ⟨fun x hx => ?_, ?_, ?_⟩
  · rcases List.mem_append.1 hx with hx | hx
    · exact h.lt x hx
    · rw [List.mem_singleton.1 hx]; exact ht
  · rw [List.pairwise_append]
    refine ⟨h.ne, by simp, fun a ha b hb he => ?_⟩
    rw [List.mem_singleton.1 hb] at he
    have := idxE_all hn a ha
    rw [Mc.eqB_iff.2 he] at this; cases this
  · rw [List.head?_append, h.fst]; rfl
theorem getD_app {l l' : List Nat} {j : Nat} (h : j < l.length) : (l ++ l').getD j 0 = l.getD j 0 := by
  rw [List.getD_eq_getElem?_getD, List.getD_eq_getElem?_getD, List.getElem?_append_left h]
/-- The signs of a state. -/
theorem rowG_ok {M : Mc} (hM : M.Ok) {i : Nat} (hi : i < M.n) {met : List Nat} (h : MetOk M met) : ∀ c, c ≤ M.s → MetOk M (rowG M M.eqB i met c).1 ∧ (∃ l, (rowG M M.eqB i met c).1 = met ++ l) ∧ (rowG M M.eqB i met c).2.length = c ∧
    ∀ d, d < c → ∃ n : Nat, gi (rowG M M.eqB i met c).2 d = n ∧ n < (rowG M M.eqB i met c).1.length ∧ M.Eqv ((rowG M M.eqB i met c).1.getD n 0) (M.st i d)
  | 0, _ => ⟨h, ⟨[], by simp [rowG]⟩, rfl, fun d hd => absurd hd (by omega)⟩
  | c + 1, hc => by
    obtain ⟨h1, ⟨l, h2⟩, h3, h4⟩ := rowG_ok hM hi h c (by omega)
    have ht := hM.st_lt hi (c := c) (by omega)
    unfold rowG
    generalize (rowG M M.eqB i met c).1 = m at *
    generalize (rowG M M.eqB i met c).2 = r at *
    have old : ∀ d, d < c → gi (r ++ [(idxE M.eqB m (M.st i c) : Int)]) d = gi r d := fun d hd => by
      unfold gi; rw [List.getElem?_append_left (by omega)]
    have new : gi (r ++ [(idxE M.eqB m (M.st i c) : Int)]) c = (idxE M.eqB m (M.st i c) : Int) := by
      unfold gi; rw [← h3]; simp
    by_cases hn : idxE M.eqB m (M.st i c) = m.length
    · simp only [if_pos hn]
      refine ⟨h1.add ht hn, ⟨l ++ [M.st i c], by rw [h2, List.append_assoc]⟩, by simp [h3], fun d hd => ?_⟩
      rcases Nat.lt_or_ge d c with hl | hl
      · obtain ⟨n, n1, n2, n3⟩ := h4 d hl
        exact ⟨n, by rw [old d hl, n1], by simp; omega, by rw [getD_app n2]; exact n3⟩
      · obtain rfl : d = c := by omega
        refine ⟨m.length, by rw [new, hn], by simp, ?_⟩
        rw [List.getD_eq_getElem?_getD]
        simp
        exact Mc.Eqv.refl M _
    · simp only [if_neg hn]
      have hlt := Nat.lt_of_le_of_ne (idxE_le M.eqB m (M.st i c)) hn
      refine ⟨h1, ⟨l, h2⟩, by simp [h3], fun d hd => ?_⟩
      rcases Nat.lt_or_ge d c with hl | hl
      · obtain ⟨n, n1, n2, n3⟩ := h4 d hl
        exact ⟨n, by rw [old d hl, n1], n2, n3⟩
      · obtain rfl : d = c := by omega
        exact ⟨_, new, hlt, Mc.eqB_iff.1 (idxE_lt hlt)⟩
/-- What holds behind a rounds. -/
structure BfOk (M : Mc) (a : Nat) (p : Bf) : Prop where
  met : MetOk M p.met
  rl : p.rows.length = min a p.met.length
  tl : p.tks.length = min a p.met.length
  row : ∀ j, j < p.rows.length → (ro p.rows j).length = M.s ∧ ∀ c, c < M.s → ∃ n : Nat, gi (ro p.rows j) c = n ∧ n < p.met.length ∧ M.Eqv (p.met.getD n 0) (M.st (p.met.getD j 0) c)
  tak : ∀ j, j < p.tks.length → bo p.tks j = bo M.tk (p.met.getD j 0)
theorem bfs_ok {M : Mc} (hM : M.Ok) : ∀ a, BfOk M a (bfs M M.eqB a)
  | 0 => by
    unfold bfs
    exact ⟨⟨fun x hx => by rw [List.mem_singleton.1 hx]; exact hM.pos, by simp, rfl⟩, by simp, by simp, fun j hj => absurd hj (by simp), fun j hj => absurd hj (by simp)⟩
  | a + 1 => by
    have ih := bfs_ok hM a
    unfold bfs
    generalize bfs M M.eqB a = p at *
    by_cases ha : a < p.met.length
    · rw [if_pos ha]
      have hi := ih.met.at_lt hM a
      obtain ⟨h1, ⟨l, h2⟩, h3, h4⟩ := rowG_ok hM hi ih.met M.s (Nat.le_refl _)
      have hlen : (rowG M M.eqB (p.met.getD a 0) p.met M.s).1.length = p.met.length + l.length := by rw [h2, List.length_append]
      have hrl : p.rows.length = a := by rw [ih.rl]; omega
      have htl : p.tks.length = a := by rw [ih.tl]; omega
      refine ⟨h1, ?_, ?_, fun j hj => ?_, fun j hj => ?_⟩
      · simp only [List.length_append, List.length_cons, List.length_nil]; omega
      · simp only [List.length_append, List.length_cons, List.length_nil]; omega
      · simp only [List.length_append, List.length_cons, List.length_nil] at hj
        rcases Nat.lt_or_ge j a with hl | hl
        · obtain ⟨r1, r2⟩ := ih.row j (by omega)
          have e : ro (p.rows ++ [(rowG M M.eqB (p.met.getD a 0) p.met M.s).2]) j = ro p.rows j := by unfold ro; rw [List.getElem?_append_left (by omega)]
          simp only [e]
          refine ⟨r1, fun c hc => ?_⟩
          obtain ⟨n, n1, n2, n3⟩ := r2 c hc
          refine ⟨n, n1, by omega, ?_⟩
          rw [h2, getD_app n2, getD_app (show j < p.met.length by omega)]
          exact n3
        · obtain rfl : j = a := by omega
          have e : ro (p.rows ++ [(rowG M M.eqB (p.met.getD j 0) p.met M.s).2]) j = (rowG M M.eqB (p.met.getD j 0) p.met M.s).2 := by unfold ro; rw [← hrl]; simp
          simp only [e]
          refine ⟨h3, fun c hc => ?_⟩
          obtain ⟨n, n1, n2, n3⟩ := h4 c hc
          refine ⟨n, n1, n2, ?_⟩
          have e2 : (rowG M M.eqB (p.met.getD j 0) p.met M.s).1.getD j 0 = p.met.getD j 0 := by rw [h2, getD_app ha]
          rw [e2]; exact n3
      · simp only [List.length_append, List.length_cons, List.length_nil] at hj
        rcases Nat.lt_or_ge j a with hl | hl
        · have e : bo (p.tks ++ [bo M.tk (p.met.getD a 0)]) j = bo p.tks j := by unfold bo; rw [List.getElem?_append_left (by omega)]
          simp only [e]
          rw [h2, getD_app (show j < p.met.length by omega)]
          exact ih.tak j (by omega)
        · obtain rfl : j = a := by omega
          have e : bo (p.tks ++ [bo M.tk (p.met.getD j 0)]) j = bo M.tk (p.met.getD j 0) := by unfold bo; rw [← htl]; simp
          simp only [e]
          rw [h2, getD_app ha]
    · rw [if_neg ha]
      exact ⟨ih.met, by rw [ih.rl]; omega, by rw [ih.tl]; omega, ih.row, ih.tak⟩
/-- It stands still when all that was met is looked at. -/
theorem bfs_still {M : Mc} {E : Nat → Nat → Bool} {a : Nat} (h : (bfs M E a).met.length ≤ a) : ∀ d, bfs M E (a + d) = bfs M E a
  | 0 => rfl
  | d + 1 => by
    have ih := bfs_still h d
    rw [← Nat.add_assoc]
    rw [show bfs M E (a + d + 1) = if a + d < (bfs M E (a + d)).met.length then _ else bfs M E (a + d) from rfl, if_neg (by rw [ih]; omega), ih]
theorem bfs_end {M : Mc} (hM : M.Ok) {a : Nat} (h : (bfs M M.eqB a).met.length ≤ a) : bfs M M.eqB a = bfs M M.eqB M.n := by
  rcases Nat.le_total a M.n with hl | hl
  · have := bfs_still h (M.n - a)
    rw [← this]; congr 1; omega
  · have := bfs_still (bfs_ok hM M.n).met.len (a - M.n)
    rw [← this]; congr 1; omega
/-- The states met, in their order. -/
noncomputable def Mc.met (M : Mc) : List Nat := (bfs M M.eqB M.n).met
section
variable {M : Mc} (hM : M.Ok)
include hM
theorem Mc.metOk : MetOk M M.met := (bfs_ok hM M.n).met
theorem Mc.least_n : M.least.n = M.met.length := by
  have := (bfs_ok hM M.n).rl
  have h2 := (bfs_ok hM M.n).met.len
  show (bfs M M.eqB M.n).rows.length = _
  unfold Mc.met; omega
theorem Mc.least_le : M.least.n ≤ M.n := by rw [Mc.least_n hM]; exact (Mc.metOk hM).len
theorem Mc.least_tk {j : Nat} (hj : j < M.met.length) : bo M.least.tk j = bo M.tk (M.met.getD j 0) := by
  have h2 := (bfs_ok hM M.n).met.len
  refine (bfs_ok hM M.n).tak j ?_
  rw [(bfs_ok hM M.n).tl]
  have : j < (bfs M M.eqB M.n).met.length := hj
  omega
theorem Mc.least_row {j c : Nat} (hj : j < M.met.length) (hc : c < M.s) : ∃ n : Nat, gi (ro M.least.nx j) c = n ∧ n < M.met.length ∧ M.Eqv (M.met.getD n 0) (M.st (M.met.getD j 0) c) :=
  ((bfs_ok hM M.n).row j (by have h := Mc.least_n hM; unfold Mc.n Mc.least at h; simp only [] at h; omega)).2 c hc
theorem Mc.least_ok : M.least.Ok := by
  have hn := Mc.least_n hM
  have h2 := (bfs_ok hM M.n).met.len
  refine ⟨by rw [hn]; exact (Mc.metOk hM).pos, by rw [hn]; exact Nat.le_trans (Mc.metOk hM).len hM.small, hM.few, ?_, hM.rise, fun i hi => ?_, fun i c hi hc => ?_⟩
  · show (bfs M M.eqB M.n).tks.length = _
    rw [(bfs_ok hM M.n).tl, hn]; unfold Mc.met; omega
  · exact ((bfs_ok hM M.n).row i hi).1
  · obtain ⟨n, n1, n2, _⟩ := Mc.least_row hM (j := i) (c := c) (by omega) hc
    omega
theorem Mc.least_st {j c : Nat} (hj : j < M.met.length) (hc : c < M.s) : M.least.st j c < M.met.length ∧ M.Eqv (M.met.getD (M.least.st j c) 0) (M.st (M.met.getD j 0) c) := by
  obtain ⟨n, n1, n2, n3⟩ := Mc.least_row hM hj hc
  have : M.least.st j c = n := by unfold Mc.st; rw [n1]; rfl
  rw [this]; exact ⟨n2, n3⟩
theorem Mc.least_lead {w : List Nat} : ∀ {j : Nat}, j < M.met.length → M.Wd w → M.least.lead j w < M.met.length ∧ M.Eqv (M.met.getD (M.least.lead j w) 0) (M.lead (M.met.getD j 0) w) := by
  induction w with
  | nil => intro j hj _; exact ⟨hj, Mc.Eqv.refl M _⟩
  | cons c w ih =>
    intro j hj hw
    have hc := hw c (List.mem_cons_self ..)
    have hw' : M.Wd w := fun d hd => hw d (List.mem_cons_of_mem _ hd)
    obtain ⟨h1, h2⟩ := Mc.least_st hM hj hc
    obtain ⟨h3, h4⟩ := ih h1 hw'
    exact ⟨h3, h4.trans (h2.lead hw')⟩
/-- It takes what the machine takes. -/
theorem Mc.least_takes {j : Nat} (hj : j < M.met.length) {w : List Nat} (hw : M.Wd w) : bo M.least.tk (M.least.lead j w) = bo M.tk (M.lead (M.met.getD j 0) w) := by
  obtain ⟨h1, h2⟩ := Mc.least_lead hM hj hw
  rw [Mc.least_tk hM h1]; exact h2.tk
theorem Mc.least_takes0 {w : List Nat} (hw : M.Wd w) : bo M.least.tk (M.least.lead 0 w) = bo M.tk (M.lead 0 w) := by
  have := Mc.least_takes hM (Mc.metOk hM).pos hw
  rwa [(Mc.metOk hM).zero] at this
/-- No two of its states are the same. -/
theorem Mc.least_ne {j k : Nat} (hj : j < M.least.n) (hk : k < M.least.n) : M.least.Eqv j k ↔ j = k := by
  rw [Mc.least_n hM] at hj hk
  constructor
  · intro h
    refine (Mc.metOk hM).eq hj hk fun w hw => ?_
    rw [← Mc.least_takes hM hj hw, ← Mc.least_takes hM hk hw]
    exact h w hw
  · rintro rfl; exact Mc.Eqv.refl _ _
end

/-! It is its own least one. -/
theorem idx_range {E : Nat → Nat → Bool} {k n t : Nat} (hE : ∀ i j, i < n → j < n → (E i j = true ↔ i = j)) (hk : k ≤ n) (ht : t < n) : idxE E (List.range k) t = min k t := by
  unfold idxE
  rcases Nat.lt_or_ge t k with hl | hl
  · rw [Nat.min_eq_right (by omega)]
    rw [List.findIdx_eq (by rw [List.length_range]; exact hl)]
    refine ⟨by rw [List.getElem_range]; exact (hE t t (by omega) (by omega)).2 rfl, fun j hj => ?_⟩
    have : ¬ E j t = true := fun h => by have := (hE j t (by omega) (by omega)).1 h; omega
    rw [List.getElem_range]
    simpa using this
  · rw [Nat.min_eq_left hl]
    have : (List.range k).findIdx (fun m => E m t) = (List.range k).length := by
      rw [List.findIdx_eq_length]
      intro x hx
      have hx := List.mem_range.1 hx
      have : ¬ E x t = true := fun h => by have := (hE x t (by omega) (by omega)).1 h; omega
      simpa using this
    rw [this, List.length_range]
theorem rowG_self {M : Mc} (hM : M.Ok) {a : Nat} (ha : a < M.met.length) (i : Nat) (m : List Nat) (hi : i < M.n)
    (hm : MetOk M m) (hst : ∀ c, c < M.s → ∃ n : Nat, gi (ro M.least.nx a) c = n ∧ ∃ c', c' = idxE M.eqB (rowG M M.eqB i m c).1 (M.st i c) ∧ n = c') (hlast : (rowG M M.eqB i m M.s).1.length ≤ M.least.n) :
    ∀ c, c ≤ M.s → rowG M.least M.least.eqB a (List.range m.length) c = (List.range (rowG M M.eqB i m c).1.length, (rowG M M.eqB i m c).2)
  | 0, _ => rfl
  | c + 1, hc => by
    have ih := rowG_self hM ha i m hi hm hst hlast c (by omega)
    obtain ⟨n, n1, c', n2, n3⟩ := hst c (by omega)
    have hle : ∀ d, c ≤ d → d ≤ M.s → (rowG M M.eqB i m c).1.length ≤ (rowG M M.eqB i m d).1.length := by
      intro d hd hs
      induction d with
      | zero => obtain rfl : c = 0 := by omega
                exact Nat.le_refl _
      | succ d ihd =>
        rcases Nat.lt_or_ge d c with hl | hl
        · obtain rfl : c = d + 1 := by omega
          exact Nat.le_refl _
        · have := ihd hl (by omega)
          refine Nat.le_trans this ?_
          rw [show rowG M M.eqB i m (d + 1) = (if idxE M.eqB (rowG M M.eqB i m d).1 (M.st i d) = (rowG M M.eqB i m d).1.length then (rowG M M.eqB i m d).1 ++ [M.st i d] else (rowG M M.eqB i m d).1, _) from rfl]
          simp only []
          split
          · simp
          · exact Nat.le_refl _
    have hkn := Nat.le_trans (hle M.s (by omega) (Nat.le_refl _)) hlast
    have hst' : M.least.st a c = n := by unfold Mc.st; rw [n1]; rfl
    have hstn : M.least.st a c < M.least.n := by rw [Mc.least_n hM]; exact (Mc.least_st hM ha (by omega)).1
    have hix : idxE M.least.eqB (List.range (rowG M M.eqB i m c).1.length) (M.least.st a c) = idxE M.eqB (rowG M M.eqB i m c).1 (M.st i c) := by
      rw [idx_range (n := M.least.n) (fun i j hi hj => Mc.eqB_iff.trans (Mc.least_ne hM hi hj)) hkn hstn, hst', n3, n2]
      exact Nat.min_eq_right (idxE_le _ _ _)
    rw [show rowG M.least M.least.eqB a (List.range m.length) (c + 1) = (if idxE M.least.eqB (rowG M.least M.least.eqB a (List.range m.length) c).1 (M.least.st a c) = (rowG M.least M.least.eqB a (List.range m.length) c).1.length then (rowG M.least M.least.eqB a (List.range m.length) c).1 ++ [M.least.st a c] else (rowG M.least M.least.eqB a (List.range m.length) c).1, (rowG M.least M.least.eqB a (List.range m.length) c).2 ++ [(idxE M.least.eqB (rowG M.least M.least.eqB a (List.range m.length) c).1 (M.least.st a c) : Int)]) from rfl]
    rw [show rowG M M.eqB i m (c + 1) = (if idxE M.eqB (rowG M M.eqB i m c).1 (M.st i c) = (rowG M M.eqB i m c).1.length then (rowG M M.eqB i m c).1 ++ [M.st i c] else (rowG M M.eqB i m c).1, (rowG M M.eqB i m c).2 ++ [(idxE M.eqB (rowG M M.eqB i m c).1 (M.st i c) : Int)]) from rfl]
    rw [ih]
    simp only [hix, List.length_range]
    by_cases hn : idxE M.eqB (rowG M M.eqB i m c).1 (M.st i c) = (rowG M M.eqB i m c).1.length
    · rw [if_pos hn, if_pos hn, List.length_append, List.length_singleton, List.range_succ, hst', n3, n2, hn]
    · rw [if_neg hn, if_neg hn]
theorem rowG_gi {M : Mc} {E : Nat → Nat → Bool} {i : Nat} {met : List Nat} : ∀ c, (rowG M E i met c).2.length = c ∧ ∀ d, d < c → gi (rowG M E i met c).2 d = (idxE E (rowG M E i met d).1 (M.st i d) : Int)
  | 0 => ⟨rfl, fun d hd => absurd hd (by omega)⟩
  | c + 1 => by
    obtain ⟨h1, h2⟩ := rowG_gi (M := M) (E := E) (i := i) (met := met) c
    rw [show (rowG M E i met (c + 1)).2 = (rowG M E i met c).2 ++ [(idxE E (rowG M E i met c).1 (M.st i c) : Int)] from rfl]
    refine ⟨by simp [h1], fun d hd => ?_⟩
    rcases Nat.lt_or_ge d c with hl | hl
    · rw [← h2 d hl]; unfold gi; rw [List.getElem?_append_left (by omega)]
    · obtain rfl : d = c := by omega
      unfold gi
      rw [List.getElem?_append_right (by omega), h1]
      simp
theorem rowG_pre {M : Mc} {E : Nat → Nat → Bool} {i : Nat} {met : List Nat} : ∀ c, ∃ l, (rowG M E i met c).1 = met ++ l
  | 0 => ⟨[], by simp [rowG]⟩
  | c + 1 => by
    obtain ⟨l, h⟩ := rowG_pre (M := M) (E := E) (i := i) (met := met) c
    rw [show (rowG M E i met (c + 1)).1 = if idxE E (rowG M E i met c).1 (M.st i c) = (rowG M E i met c).1.length then (rowG M E i met c).1 ++ [M.st i c] else (rowG M E i met c).1 from rfl]
    split
    · exact ⟨l ++ [M.st i c], by rw [h, List.append_assoc]⟩
    · exact ⟨l, h⟩
theorem bfs_pre {M : Mc} {E : Nat → Nat → Bool} (a : Nat) : ∀ d, ∃ l1 l2 l3, (bfs M E (a + d)).met = (bfs M E a).met ++ l1 ∧ (bfs M E (a + d)).rows = (bfs M E a).rows ++ l2 ∧ (bfs M E (a + d)).tks = (bfs M E a).tks ++ l3
  | 0 => ⟨[], [], [], by simp, by simp, by simp⟩
  | d + 1 => by
    obtain ⟨l1, l2, l3, h1, h2, h3⟩ := bfs_pre (M := M) (E := E) a d
    rw [← Nat.add_assoc]
    rw [show bfs M E (a + d + 1) = if a + d < (bfs M E (a + d)).met.length then ⟨(rowG M E ((bfs M E (a + d)).met.getD (a + d) 0) (bfs M E (a + d)).met M.s).1, (bfs M E (a + d)).rows ++ [(rowG M E ((bfs M E (a + d)).met.getD (a + d) 0) (bfs M E (a + d)).met M.s).2], (bfs M E (a + d)).tks ++ [bo M.tk ((bfs M E (a + d)).met.getD (a + d) 0)]⟩ else bfs M E (a + d) from rfl]
    split
    · obtain ⟨l, hl⟩ := rowG_pre (M := M) (E := E) (i := (bfs M E (a + d)).met.getD (a + d) 0) (met := (bfs M E (a + d)).met) M.s
      exact ⟨l1 ++ l, l2 ++ [(rowG M E ((bfs M E (a + d)).met.getD (a + d) 0) (bfs M E (a + d)).met M.s).2], l3 ++ [bo M.tk ((bfs M E (a + d)).met.getD (a + d) 0)], by simp only [hl]; rw [h1, List.append_assoc], by simp only []; rw [h2, List.append_assoc], by simp only []; rw [h3, List.append_assoc]⟩
    · exact ⟨l1, l2, l3, h1, h2, h3⟩
theorem bfs_self {M : Mc} (hM : M.Ok) : ∀ a, bfs M.least M.least.eqB a = ⟨List.range (bfs M M.eqB a).met.length, (bfs M M.eqB a).rows, (bfs M M.eqB a).tks⟩
  | 0 => rfl
  | a + 1 => by
    have ih := bfs_self hM a
    rw [show bfs M.least M.least.eqB (a + 1) = if a < (bfs M.least M.least.eqB a).met.length then ⟨(rowG M.least M.least.eqB ((bfs M.least M.least.eqB a).met.getD a 0) (bfs M.least M.least.eqB a).met M.s).1, (bfs M.least M.least.eqB a).rows ++ [(rowG M.least M.least.eqB ((bfs M.least M.least.eqB a).met.getD a 0) (bfs M.least M.least.eqB a).met M.s).2], (bfs M.least M.least.eqB a).tks ++ [bo M.least.tk ((bfs M.least M.least.eqB a).met.getD a 0)]⟩ else bfs M.least M.least.eqB a from rfl]
    rw [ih]
    simp only [List.length_range]
    have hok := bfs_ok hM a
    by_cases ha : a < (bfs M M.eqB a).met.length
    · have hstep : bfs M M.eqB (a + 1) = ⟨(rowG M M.eqB ((bfs M M.eqB a).met.getD a 0) (bfs M M.eqB a).met M.s).1, (bfs M M.eqB a).rows ++ [(rowG M M.eqB ((bfs M M.eqB a).met.getD a 0) (bfs M M.eqB a).met M.s).2], (bfs M M.eqB a).tks ++ [bo M.tk ((bfs M M.eqB a).met.getD a 0)]⟩ := by
        rw [show bfs M M.eqB (a + 1) = if a < (bfs M M.eqB a).met.length then ⟨(rowG M M.eqB ((bfs M M.eqB a).met.getD a 0) (bfs M M.eqB a).met M.s).1, (bfs M M.eqB a).rows ++ [(rowG M M.eqB ((bfs M M.eqB a).met.getD a 0) (bfs M M.eqB a).met M.s).2], (bfs M M.eqB a).tks ++ [bo M.tk ((bfs M M.eqB a).met.getD a 0)]⟩ else bfs M M.eqB a from rfl, if_pos ha]
      have hok1 := bfs_ok hM (a + 1)
      have han : a + 1 ≤ M.n := Nat.le_trans ha hok.met.len
      obtain ⟨l1, l2, l3, e1, e2, e3⟩ := bfs_pre (M := M) (E := M.eqB) (a + 1) (M.n - (a + 1))
      rw [show a + 1 + (M.n - (a + 1)) = M.n by omega] at e1 e2 e3
      have hrl : (bfs M M.eqB a).rows.length = a := by rw [hok.rl]; omega
      have hmet : M.met = (bfs M M.eqB (a + 1)).met ++ l1 := e1
      have hrow : ro M.least.nx a = (rowG M M.eqB ((bfs M M.eqB a).met.getD a 0) (bfs M M.eqB a).met M.s).2 := by
        show ro (bfs M M.eqB M.n).rows a = _
        rw [e2, hstep]
        unfold ro
        simp only []
        rw [List.append_assoc, List.getElem?_append_right (by omega), hrl]
        simp
      obtain ⟨q, hq⟩ := rowG_pre (M := M) (E := M.eqB) (i := (bfs M M.eqB a).met.getD a 0) (met := (bfs M M.eqB a).met) M.s
      have hm2 : M.met = (rowG M M.eqB ((bfs M M.eqB a).met.getD a 0) (bfs M M.eqB a).met M.s).1 ++ l1 := by rw [hmet, hstep]
      have hgd : M.met.getD a 0 = (bfs M M.eqB a).met.getD a 0 := by rw [hm2, hq, List.append_assoc, getD_app ha]
      have hal : a < M.met.length := by rw [hm2, hq]; simp only [List.length_append]; omega
      have hself := rowG_self hM hal ((bfs M M.eqB a).met.getD a 0) (bfs M M.eqB a).met (hok.met.at_lt hM a) hok.met
        (fun c hc => ⟨idxE M.eqB (rowG M M.eqB ((bfs M M.eqB a).met.getD a 0) (bfs M M.eqB a).met c).1 (M.st ((bfs M M.eqB a).met.getD a 0) c), by rw [hrow, (rowG_gi M.s).2 c hc], _, rfl, rfl⟩)
        (by rw [Mc.least_n hM, hm2]; simp only [List.length_append]; omega) M.s (Nat.le_refl _)
      have hga : (List.range (bfs M M.eqB a).met.length).getD a 0 = a := by rw [List.getD_eq_getElem?_getD, List.getElem?_range ha]; rfl
      rw [if_pos ha, hga, hself, hstep, Mc.least_tk hM hal, hgd]
    · rw [if_neg ha]
      rw [show bfs M M.eqB (a + 1) = if a < (bfs M M.eqB a).met.length then _ else bfs M M.eqB a from rfl, if_neg ha]
/-- The least machine is its own least one. -/
theorem Mc.least_least {M : Mc} (hM : M.Ok) : M.least.least = M.least := by
  have h1 := bfs_self hM M.least.n
  have h2 : bfs M M.eqB M.least.n = bfs M M.eqB M.n := by
    refine bfs_end hM ?_
    have hl := Mc.least_n hM
    have hle := Mc.least_le hM
    obtain ⟨l1, l2, l3, e1, e2, e3⟩ := bfs_pre (M := M) (E := M.eqB) M.least.n (M.n - M.least.n)
    rw [show M.least.n + (M.n - M.least.n) = M.n by omega] at e1
    have : M.met.length = (bfs M M.eqB M.least.n).met.length + l1.length := by unfold Mc.met; rw [e1, List.length_append]
    omega
  rw [h2] at h1
  show Mc.mk M.sg (bfs M.least M.least.eqB M.least.n).rows (bfs M.least M.least.eqB M.least.n).tks = Mc.mk M.sg (bfs M M.eqB M.n).rows (bfs M M.eqB M.n).tks
  rw [h1]
end Go.Proofs.Ytchhbnnpannnhaa
