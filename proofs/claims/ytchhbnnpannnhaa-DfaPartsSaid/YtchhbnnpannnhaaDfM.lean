/- A pattern's machine, its states the sets of places one may be in, numbered as they are met; in plain Lean. No condition. -/
import Derived.Test.YtchhbnnpannnhaaNfN
import Derived.Test.YtchhbnnpannnhaaLsP
namespace Go.Proofs.Ytchhbnnpannnhaa
set_option linter.unusedVariables false

/-- The number whose bits say who is in. -/
def mkB (P : Nat → Bool) : Nat → Nat
  | 0 => 0
  | n + 1 => mkB P n ||| (if P n then 2 ^ n else 0)
theorem mkB_bit (P : Nat → Bool) (n c : Nat) : (mkB P n).testBit c = (decide (c < n) && P c) := by
  induction n with
  | zero => simp [mkB]
  | succ n ih =>
    rw [mkB, Nat.testBit_or, ih]
    by_cases hp : P n = true
    · rw [if_pos hp, Nat.testBit_two_pow]
      by_cases hc : c = n
      · subst hc; simp [hp]
      · have : decide (n = c) = false := decide_eq_false (fun e => hc e.symm)
        rw [this, Bool.or_false]
        by_cases hlt : c < n
        · simp [hlt, show c < n + 1 by omega]
        · simp [hlt, show ¬ c < n + 1 by omega]
    · rw [if_neg hp, Nat.zero_testBit, Bool.or_false]
      by_cases hc : c = n
      · subst hc
        have : P c = false := by simpa using hp
        simp [this]
      · by_cases hlt : c < n
        · simp [hlt, show c < n + 1 by omega]
        · simp [hlt, show ¬ c < n + 1 by omega]
theorem mkB_lt (P : Nat → Bool) (n : Nat) : mkB P n < 2 ^ n := by
  apply Nat.lt_pow_two_of_testBit
  intro i hi
  rw [mkB_bit]
  simp; omega
/-- The state at the beginning. -/
def beg : Nat := 1048576
/-- Can one come to a place from a state? -/
def canM (t : Pt) (m j : Nat) : Bool := if m = beg then decide (j ∈ fsP t) else (List.range (leaves t).length).any fun i => m.testBit i && decide ((i, j) ∈ prP t)
/-- Where a sign leads from a state. -/
def toM (t : Pt) (m : Nat) (c : UInt8) : Nat := mkB (fun j => decide (bu (leaves t) j = c) && canM t m j) (leaves t).length
/-- Does a state take? -/
def tkM (t : Pt) (m : Nat) : Bool := if m = beg then nul t else (List.range (leaves t).length).any fun i => m.testBit i && decide (i ∈ lsP t)
/-- The first d signs of a state looked at: those met, and the row. -/
def rowD (t : Pt) (sg : List UInt8) (m : Nat) (met : List Nat) : Nat → List Nat × List Int
  | 0 => (met, [])
  | d + 1 => (if (rowD t sg m met d).1.idxOf (toM t m (bu sg d)) = (rowD t sg m met d).1.length then (rowD t sg m met d).1 ++ [toM t m (bu sg d)] else (rowD t sg m met d).1, (rowD t sg m met d).2 ++ [((rowD t sg m met d).1.idxOf (toM t m (bu sg d)) : Int)])
/-- Behind so many rounds. -/
def dfb (t : Pt) (sg : List UInt8) : Nat → Bf
  | 0 => ⟨[beg], [], []⟩
  | a + 1 => if a < (dfb t sg a).met.length then ⟨(rowD t sg ((dfb t sg a).met.getD a 0) (dfb t sg a).met sg.length).1, (dfb t sg a).rows ++ [(rowD t sg ((dfb t sg a).met.getD a 0) (dfb t sg a).met sg.length).2], (dfb t sg a).tks ++ [tkM t ((dfb t sg a).met.getD a 0)]⟩ else dfb t sg a
theorem dfb_succ (t : Pt) (sg : List UInt8) (a : Nat) : dfb t sg (a + 1) = if a < (dfb t sg a).met.length then ⟨(rowD t sg ((dfb t sg a).met.getD a 0) (dfb t sg a).met sg.length).1, (dfb t sg a).rows ++ [(rowD t sg ((dfb t sg a).met.getD a 0) (dfb t sg a).met sg.length).2], (dfb t sg a).tks ++ [tkM t ((dfb t sg a).met.getD a 0)]⟩ else dfb t sg a := by rw [dfb]
/-- The machine. -/
def dfM (t : Pt) (sg : List UInt8) : Mc := ⟨sg, (dfb t sg 4097).rows, (dfb t sg 4097).tks⟩

theorem toM_lt {t : Pt} {m : Nat} {c : UInt8} (h : (leaves t).length ≤ 12) : toM t m c < 4096 :=
  Nat.lt_of_lt_of_le (mkB_lt _ _) (Nat.le_trans (Nat.pow_le_pow_right (by omega) h) (by decide))
theorem toM_bit {t : Pt} {m : Nat} {c : UInt8} (j : Nat) : (toM t m c).testBit j = (decide (j < (leaves t).length) && (decide (bu (leaves t) j = c) && canM t m j)) := mkB_bit _ _ _
theorem toM_pow {t : Pt} {m : Nat} {c : UInt8} : toM t m c < 2 ^ (leaves t).length := mkB_lt _ _
/-- Those met: the beginning's one, and sets of places, each once. -/
structure MetD (n : Nat) (met : List Nat) : Prop where
  nd : met.Nodup
  fst : ∃ l, met = beg :: l ∧ ∀ x ∈ l, x < 2 ^ n
theorem MetD.pos {n : Nat} {met : List Nat} (h : MetD n met) : 0 < met.length := by obtain ⟨l, rfl, _⟩ := h.fst; simp
theorem MetD.len {n : Nat} {met : List Nat} (h : MetD n met) (hn : n ≤ 12) : met.length ≤ 4097 := by
  obtain ⟨l, rfl, hl⟩ := h.fst
  have h1 := nodup_le (n := 4096) (List.nodup_cons.1 h.nd).2 fun x hx => Nat.lt_of_lt_of_le (hl x hx) (Nat.le_trans (Nat.pow_le_pow_right (by omega) hn) (by decide))
  simp only [List.length_cons]; omega
theorem MetD.le {n : Nat} {met : List Nat} (h : MetD n met) (hn : n ≤ 12) {x : Nat} (hx : x ∈ met) : x ≤ 1048576 := by
  obtain ⟨l, rfl, hl⟩ := h.fst
  rcases List.mem_cons.1 hx with rfl | hx
  · exact Nat.le_refl _
  · have h1 := hl x hx
    have h2 : 2 ^ n ≤ 2 ^ 12 := Nat.pow_le_pow_right (by omega) hn
    omega
theorem MetD.at_le {n : Nat} {met : List Nat} (h : MetD n met) (hn : n ≤ 12) (j : Nat) : met.getD j 0 ≤ 1048576 := by
  rw [List.getD_eq_getElem?_getD]
  rcases Nat.lt_or_ge j met.length with hl | hl
  · rw [List.getElem?_eq_getElem hl]; exact h.le hn (List.getElem_mem hl)
  · rw [List.getElem?_eq_none hl]; exact Nat.zero_le _
theorem MetD.add {n : Nat} {met : List Nat} (h : MetD n met) {x : Nat} (hx : x < 2 ^ n) (hn : met.idxOf x = met.length) : MetD n (met ++ [x]) := by
  have hnm : x ∉ met := fun hm => by have := List.idxOf_lt_length_iff.2 hm; omega
  refine ⟨?_, ?_⟩
  · rw [List.nodup_append]
    refine ⟨h.nd, by simp, fun a ha b hb e => ?_⟩
    rw [List.mem_singleton] at hb
    subst hb; subst e
    exact hnm ha
  · obtain ⟨l, rfl, hl⟩ := h.fst
    refine ⟨l ++ [x], rfl, fun y hy => ?_⟩
    rcases List.mem_append.1 hy with hy | hy
    · exact hl y hy
    · rw [List.mem_singleton.1 hy]; exact hx
theorem rowD_ok {t : Pt} {sg : List UInt8} {m : Nat} {met : List Nat} (h : MetD (leaves t).length met) : ∀ d, MetD (leaves t).length (rowD t sg m met d).1 ∧ (∃ l, (rowD t sg m met d).1 = met ++ l) ∧ (rowD t sg m met d).2.length = d
  | 0 => ⟨h, ⟨[], by simp [rowD]⟩, rfl⟩
  | d + 1 => by
    obtain ⟨h1, ⟨l, h2⟩, h3⟩ := rowD_ok h d
    unfold rowD
    generalize (rowD t sg m met d).1 = q at *
    generalize (rowD t sg m met d).2 = r at *
    refine ⟨?_, ?_, by simp [h3]⟩
    · dsimp only
      split
      · rename_i hn; exact h1.add toM_pow hn
      · exact h1
    · dsimp only
      split
      · exact ⟨l ++ [toM t m (bu sg d)], by rw [h2, List.append_assoc]⟩
      · exact ⟨l, h2⟩
structure DfOk (t : Pt) (sg : List UInt8) (a : Nat) (p : Bf) : Prop where
  met : MetD (leaves t).length p.met
  rl : p.rows.length = min a p.met.length
  tl : p.tks.length = min a p.met.length
  row : ∀ j, j < p.rows.length → (ro p.rows j).length = sg.length
theorem dfb_ok (t : Pt) (sg : List UInt8) : ∀ a, DfOk t sg a (dfb t sg a)
  | 0 => by
    unfold dfb
    exact ⟨⟨by simp, [], rfl, fun x hx => by cases hx⟩, by simp, by simp, fun j hj => absurd hj (by simp)⟩
  | a + 1 => by
    have ih := dfb_ok t sg a
    unfold dfb
    generalize dfb t sg a = p at *
    by_cases ha : a < p.met.length
    · rw [if_pos ha]
      obtain ⟨h1, ⟨l, h2⟩, h3⟩ := rowD_ok (sg := sg) (m := p.met.getD a 0) ih.met sg.length
      have hlen : (rowD t sg (p.met.getD a 0) p.met sg.length).1.length = p.met.length + l.length := by rw [h2, List.length_append]
      have hrl : p.rows.length = a := by rw [ih.rl]; omega
      have htl : p.tks.length = a := by rw [ih.tl]; omega
      refine ⟨h1, ?_, ?_, fun j hj => ?_⟩
      · simp only [List.length_append, List.length_cons, List.length_nil]; omega
      · simp only [List.length_append, List.length_cons, List.length_nil]; omega
      · simp only [List.length_append, List.length_cons, List.length_nil] at hj
        rcases Nat.lt_or_ge j a with hl | hl
        · have e : ro (p.rows ++ [(rowD t sg (p.met.getD a 0) p.met sg.length).2]) j = ro p.rows j := by unfold ro; rw [List.getElem?_append_left (by omega)]
          simp only [e]
          exact ih.row j (by omega)
        · obtain rfl : j = a := by omega
          have e : ro (p.rows ++ [(rowD t sg (p.met.getD j 0) p.met sg.length).2]) j = (rowD t sg (p.met.getD j 0) p.met sg.length).2 := by unfold ro; rw [← hrl]; simp
          simp only [e]
          exact h3
    · rw [if_neg ha]
      exact ⟨ih.met, by rw [ih.rl]; omega, by rw [ih.tl]; omega, ih.row⟩
theorem dfb_still {t : Pt} {sg : List UInt8} {a : Nat} (h : (dfb t sg a).met.length ≤ a) : ∀ d, dfb t sg (a + d) = dfb t sg a
  | 0 => rfl
  | d + 1 => by
    have ih := dfb_still h d
    rw [← Nat.add_assoc]
    rw [dfb_succ, if_neg (by rw [ih]; omega), ih]
theorem dfb_end {t : Pt} {sg : List UInt8} (hn : (leaves t).length ≤ 12) {a : Nat} (h : (dfb t sg a).met.length ≤ a) : dfb t sg a = dfb t sg 4097 := by
  rcases Nat.le_total a 4097 with hl | hl
  · exact (dfb_still h (4097 - a)).symm.trans (congrArg (dfb t sg) (Nat.add_sub_of_le hl))
  · exact (congrArg (dfb t sg) (Nat.add_sub_of_le hl)).symm.trans (dfb_still ((dfb_ok t sg 4097).met.len hn) (a - 4097))
end Go.Proofs.Ytchhbnnpannnhaa
