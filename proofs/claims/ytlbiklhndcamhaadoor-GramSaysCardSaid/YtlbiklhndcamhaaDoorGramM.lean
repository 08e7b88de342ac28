/- What package gram computes, in plain Lean: which names a text can be. -/
import Derived.Test.YtlbiklhndcamhaaDoorPlain
namespace Go.Proofs.YtlbiklhndcamhaaDoor.GramM
open Go.Proofs.YtlbiklhndcamhaaDoor
structure Ru where
  nm : UInt8
  is : List UInt8
/-- The j-th rule. A name that simp does not open. -/
def ru (L : List Ru) (j : Nat) : Ru := L[j]?.getD ⟨0, []⟩
theorem ru_eq {L : List Ru} {j : Nat} (h : j < L.length) : ru L j = L[j] := by unfold ru; rw [List.getElem?_eq_getElem h]; rfl
theorem ru_mem {L : List Ru} {j : Nat} (h : j < L.length) : ru L j ∈ L := by rw [ru_eq h]; exact List.getElem_mem h
theorem take_succ_ru {L : List Ru} {j : Nat} (h : j < L.length) : L.take (j + 1) = L.take j ++ [ru L j] := by rw [List.take_succ_eq_append_getElem h, ru_eq h]
theorem drop_ru {L : List Ru} {j : Nat} (h : j < L.length) : L.drop j = ru L j :: L.drop (j + 1) := by rw [List.drop_eq_getElem_cons h, ru_eq h]
/-- Can the name be the text, in so many steps? (c: the name's number as a byte.) -/
def derB : Nat → List Ru → Nat → List UInt8 → Bool
  | 0, _, _, _ => false
  | f + 1, L, c, s => L.any fun r => r.nm.toNat == c && ((r.is.length == 1 && r.is == s) ||
      (r.is.length == 2 && (List.range s.length).any fun k => decide (1 ≤ k) && (derB f L (bu r.is 0).toNat (s.take k) && derB f L (bu r.is 1).toNat (s.drop k))))
def der (L : List Ru) (c : Nat) (s : List UInt8) : Bool := derB s.length L c s
theorem any_congr {α : Type} {l : List α} {p q : α → Bool} (h : ∀ x ∈ l, p x = q x) : l.any p = l.any q := by
  induction l with
  | nil => rfl
  | cons x l ih =>
    simp only [List.any_cons]
    rw [h x (by simp), ih fun y hy => h y (by simp [hy])]
theorem derB_nil (f : Nat) (L : List Ru) (c : Nat) : derB f L c [] = false := by
  cases f with
  | zero => rfl
  | succ f =>
    simp only [derB, List.length_nil, List.range_zero, List.any_nil, Bool.and_false, Bool.or_false]
    rw [List.any_eq_false]
    intro r _
    simp
    intro _ h1 h2
    rw [h2] at h1; simp at h1
theorem derB_fuel (L : List Ru) : ∀ (f g : Nat) (c : Nat) (s : List UInt8), s.length ≤ f → s.length ≤ g → derB f L c s = derB g L c s := by
  intro f
  induction f with
  | zero =>
    intro g c s h1 _
    obtain rfl : s = [] := List.length_eq_zero_iff.1 (by omega)
    rw [derB_nil, derB_nil]
  | succ f ih =>
    intro g c s h1 h2
    cases g with
    | zero =>
      obtain rfl : s = [] := List.length_eq_zero_iff.1 (by omega)
      rw [derB_nil, derB_nil]
    | succ g =>
      simp only [derB]
      refine any_congr fun r _ => ?_
      congr 2
      congr 1
      refine any_congr fun k hk => ?_
      rw [List.mem_range] at hk
      by_cases h0 : 1 ≤ k
      · rw [ih g _ (s.take k) (by rw [List.length_take]; omega) (by rw [List.length_take]; omega), ih g _ (s.drop k) (by rw [List.length_drop]; omega) (by rw [List.length_drop]; omega)]
      · simp [h0]
theorem der_eq (L : List Ru) (c : Nat) (s : List UInt8) : der L c s = L.any fun r => r.nm.toNat == c && ((r.is.length == 1 && r.is == s) ||
      (r.is.length == 2 && (List.range s.length).any fun k => decide (1 ≤ k) && (der L (bu r.is 0).toNat (s.take k) && der L (bu r.is 1).toNat (s.drop k)))) := by
  have h : der L c s = derB (s.length + 1) L c s := derB_fuel L _ _ c s (Nat.le_refl _) (by omega)
  rw [h, derB]
  refine any_congr fun r _ => ?_
  congr 2
  congr 1
  refine any_congr fun k hk => ?_
  rw [List.mem_range] at hk
  unfold der
  rw [derB_fuel L s.length (s.take k).length _ (s.take k) (by rw [List.length_take]; omega) (Nat.le_refl _), derB_fuel L s.length (s.drop k).length _ (s.drop k) (by rw [List.length_drop]; omega) (Nat.le_refl _)]

/-- The number whose bits say who is in. -/
def mkT (P : Nat → Bool) : Nat → Nat
  | 0 => 0
  | n + 1 => mkT P n ||| (if P n then 2 ^ n else 0)
def mk (P : Nat → Bool) : Nat := mkT P 26
theorem mkT_bit (P : Nat → Bool) (n c : Nat) : (mkT P n).testBit c = (decide (c < n) && P c) := by
  induction n with
  | zero => simp [mkT]
  | succ n ih =>
    rw [mkT, Nat.testBit_or, ih]
    by_cases hp : P n = true
    · rw [if_pos hp, Nat.testBit_two_pow]
      by_cases hc : c = n
      · subst hc; simp [hp]
      · have : decide (n = c) = false := decide_eq_false (fun e => hc e.symm)
        rw [this, Bool.or_false]
        by_cases hlt : c < n
        · simp [hlt, show c < n + 1 by omega]
        · simp [hlt, show ¬ c < n + 1 by omega]
    · rw [if_neg hp, Nat.zero_testBit, Bool.or_false]
      by_cases hc : c = n
      · subst hc
        have : P c = false := by simpa using hp
        simp [this]
      · by_cases hlt : c < n
        · simp [hlt, show c < n + 1 by omega]
        · simp [hlt, show ¬ c < n + 1 by omega]
theorem mk_bit (P : Nat → Bool) (c : Nat) : (mk P).testBit c = (decide (c < 26) && P c) := mkT_bit P 26 c
theorem mk_lt (P : Nat → Bool) : mk P < 2 ^ 26 := by
  apply Nat.lt_pow_two_of_testBit
  intro i hi
  rw [mk_bit]
  simp; omega
theorem mk_congr {P Q : Nat → Bool} (h : ∀ c, c < 26 → P c = Q c) : mk P = mk Q := by
  apply Nat.eq_of_testBit_eq
  intro c
  rw [mk_bit, mk_bit]
  by_cases hc : c < 26
  · simp [hc, h c hc]
  · simp [hc]
theorem mk_or (P : Nat → Bool) (c0 : Nat) (h : c0 < 26) : mk P ||| 2 ^ c0 = mk fun c => P c || decide (c0 = c) := by
  apply Nat.eq_of_testBit_eq
  intro c
  rw [Nat.testBit_or, mk_bit, mk_bit, Nat.testBit_two_pow]
  by_cases hc : c < 26
  · simp [hc]
  · have : decide (c0 = c) = false := decide_eq_false (by omega)
    simp [hc, this]
theorem mk_and (P : Nat → Bool) (c0 : Nat) (h : c0 < 26) : (mk P &&& 2 ^ c0 == 0) = !P c0 := by
  have key : mk P &&& 2 ^ c0 = if P c0 then 2 ^ c0 else 0 := by
    apply Nat.eq_of_testBit_eq
    intro c
    rw [Nat.testBit_and, mk_bit, Nat.testBit_two_pow]
    by_cases hc : c0 = c
    · subst hc
      by_cases hp : P c0 = true
      · simp [hp, h]
      · simp [hp]
    · by_cases hp : P c0 = true
      · simp [hp, hc]
      · simp [hp, hc]
  rw [key]
  by_cases hp : P c0 = true
  · rw [if_pos hp, hp]
    simp
  · rw [if_neg hp]
    have : P c0 = false := by simpa using hp
    rw [this]; rfl
theorem mk_zero : mk (fun _ => false) = 0 := by decide

/-- A part of a text. -/
def cut (s : List UInt8) (i k : Nat) : List UInt8 := (s.drop i).take k
theorem cut_len {s : List UInt8} {i k : Nat} (h : i + k ≤ s.length) : (cut s i k).length = k := by unfold cut; rw [List.length_take, List.length_drop]; omega
theorem cut_take (s : List UInt8) {i k m : Nat} (h : m ≤ k) : (cut s i k).take m = cut s i m := by unfold cut; rw [List.take_take, Nat.min_eq_left h]
theorem cut_drop (s : List UInt8) (i k m : Nat) : (cut s i k).drop m = cut s (i + m) (k - m) := by unfold cut; rw [List.drop_take, List.drop_drop]
/-- All that a part can be. -/
def full (L : List Ru) (s : List UInt8) (i k : Nat) : Nat := mk fun c => der L (65 + c) (cut s i k)
/-- Of one sign: by the rules so far. -/
def one (L : List Ru) (s : List UInt8) (i j : Nat) : Nat := mk fun c => (L.take j).any fun r => r.nm.toNat == 65 + c && r.is == cut s i 1
/-- Does a rule part it there? -/
def fits (L : List Ru) (s : List UInt8) (i n k : Nat) (r : Ru) : Bool := r.is.length == 2 && (der L (bu r.is 0).toNat (cut s i k) && der L (bu r.is 1).toNat (cut s (i + k) (n - k)))
/-- By the places so far, and at the next one by the rules so far. -/
def some_ (L : List Ru) (s : List UInt8) (i n k j : Nat) : Nat :=
  mk fun c => (L.any fun r => r.nm.toNat == 65 + c && (List.range k).any fun k' => decide (1 ≤ k') && fits L s i n k' r) || ((L.take j).any fun r => r.nm.toNat == 65 + c && fits L s i n k r)
theorem one_zero (L : List Ru) (s : List UInt8) (i : Nat) : one L s i 0 = 0 := mk_zero
theorem one_last {L : List Ru} {s : List UInt8} {i : Nat} (h : i < s.length) : one L s i L.length = full L s i 1 := by
  unfold one full
  refine mk_congr fun c _ => ?_
  rw [List.take_length, der_eq, cut_len (by omega)]
  refine any_congr fun r _ => ?_
  congr 1
  have : ((List.range 1).any fun k => decide (1 ≤ k) && (der L (bu r.is 0).toNat ((cut s i 1).take k) && der L (bu r.is 1).toNat ((cut s i 1).drop k))) = false := by simp [List.range_succ]
  rw [this, Bool.and_false, Bool.or_false]
  by_cases hr : r.is = cut s i 1
  · have hl := cut_len (s := s) (i := i) (k := 1) (by omega)
    rw [hr, hl]; simp
  · simp [hr]
theorem one_succ {L : List Ru} {s : List UInt8} {i j : Nat} (h : j < L.length) (hn : 65 ≤ (ru L j).nm.toNat ∧ (ru L j).nm.toNat ≤ 90) :
    one L s i (j + 1) = if (ru L j).is = cut s i 1 then one L s i j ||| 2 ^ ((ru L j).nm.toNat - 65) else one L s i j := by
  unfold one
  by_cases hr : (ru L j).is = cut s i 1
  · rw [if_pos hr, mk_or _ _ (by omega)]
    refine mk_congr fun c hc => ?_
    rw [take_succ_ru h, List.any_append]
    congr 1
    simp only [List.any_cons, List.any_nil, Bool.or_false, hr, beq_self_eq_true, Bool.and_true]
    rw [Bool.eq_iff_iff]
    simp; omega
  · rw [if_neg hr]
    refine mk_congr fun c hc => ?_
    rw [take_succ_ru h, List.any_append]
    simp [hr]
theorem some_zero (L : List Ru) (s : List UInt8) (i n : Nat) : some_ L s i n 1 0 = 0 := by
  have : some_ L s i n 1 0 = mk fun _ => false := by
    refine mk_congr fun c _ => ?_
    simp [List.range_succ]
  rw [this, mk_zero]
theorem some_succ {L : List Ru} {s : List UInt8} {i n k j : Nat} (h : j < L.length) (hn : 65 ≤ (ru L j).nm.toNat ∧ (ru L j).nm.toNat ≤ 90) :
    some_ L s i n k (j + 1) = if fits L s i n k (ru L j) = true then some_ L s i n k j ||| 2 ^ ((ru L j).nm.toNat - 65) else some_ L s i n k j := by
  unfold some_
  by_cases hr : fits L s i n k (ru L j) = true
  · rw [if_pos hr, mk_or _ _ (by omega)]
    refine mk_congr fun c hc => ?_
    rw [take_succ_ru h, List.any_append, Bool.or_assoc]
    congr 2
    simp only [List.any_cons, List.any_nil, Bool.or_false, hr, Bool.and_true]
    rw [Bool.eq_iff_iff]
    simp; omega
  · rw [if_neg hr]
    refine mk_congr fun c hc => ?_
    have hr' : fits L s i n k (ru L j) = false := by simpa using hr
    rw [take_succ_ru h, List.any_append]
    simp [hr']
theorem any_or {α : Type} (l : List α) (p q : α → Bool) : (l.any p || l.any q) = l.any fun x => p x || q x := by
  induction l with
  | nil => rfl
  | cons x l ih =>
    simp only [List.any_cons, ← ih]
    cases p x <;> cases q x <;> simp
theorem some_next {L : List Ru} {s : List UInt8} {i n k : Nat} (hk : 1 ≤ k) : some_ L s i n k L.length = some_ L s i n (k + 1) 0 := by
  unfold some_
  refine mk_congr fun c _ => ?_
  rw [List.take_length, List.take_zero, List.any_nil, Bool.or_false, any_or]
  refine any_congr fun r _ => ?_
  rw [List.range_succ, List.any_append]
  simp only [List.any_cons, List.any_nil, Bool.or_false, hk, decide_true, Bool.true_and]
  cases (r.nm.toNat == 65 + c) <;> simp
theorem some_last {L : List Ru} {s : List UInt8} {i n : Nat} (hn : 2 ≤ n) (h : i + n ≤ s.length) : some_ L s i n n 0 = full L s i n := by
  unfold some_ full
  refine mk_congr fun c _ => ?_
  rw [List.take_zero, List.any_nil, Bool.or_false, der_eq, cut_len h]
  refine any_congr fun r _ => ?_
  congr 1
  have h1 : (r.is.length == 1 && r.is == cut s i n) = false := by
    rw [Bool.and_eq_false_iff]
    by_cases hr : r.is = cut s i n
    · left
      rw [hr, cut_len h]
      simp; omega
    · right; simpa using hr
  rw [h1, Bool.false_or]
  unfold fits
  by_cases h2 : (r.is.length == 2) = true
  · rw [h2]
    simp only [Bool.true_and]
    refine any_congr fun k hk => ?_
    rw [List.mem_range] at hk
    rw [cut_take s (by omega), cut_drop]
  · have h2' : (r.is.length == 2) = false := by simpa using h2
    rw [h2']
    simp
end Go.Proofs.YtlbiklhndcamhaaDoor.GramM
