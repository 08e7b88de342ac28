/- A book's log as a row of changes: what it holds, its lines, and that a row of changes from the start gives it back. No condition. -/
import Derived.Test.YtgmmlblefealjaaDoorBookL
namespace Go.Proofs.YtgmmlblefealjaaDoor
open Go.RowKit

inductive Ev where
  | put (a : Nat) (x : List UInt8)
  | cut (a k : Nat)
def evL : Ev → List UInt8
  | .put a x => putL a x
  | .cut a k => cutL a k
def evA (s : BS) : Ev → Int × BS
  | .put a x => putS s a x
  | .cut a k => cutS s a k
def evG : Ev → Prop
  | .put a x => a ≤ 24 ∧ x.length ≤ 8 ∧ x.all lo = true
  | .cut a k => a ≤ 24 ∧ k ≤ 24
/-- The line of a change, with its sum, without its end. -/
def evT (e : Ev) : List UInt8 := evL e ++ [32] ++ Lib.decDigits (sumM (evL e))
theorem evT_down (e : Ev) : downM (evL e) = evT e ++ [10] := by unfold downM evT; rw [Lib.itoa_nonneg]
inductive Logs : List Ev → BS → Prop where
  | nil : Logs [] ⟨[], [], 0⟩
  | snoc {es : List Ev} {s : BS} {e : Ev} : Logs es s → (evA s e).1 = 0 → evG e → Logs (es ++ [e]) (evA s e).2
/-- The text of a row of changes. -/
def txtE (es : List Ev) : List UInt8 := es.flatMap fun e => downM (evL e)
theorem evA_ok {s : BS} {e : Ev} (h : (evA s e).1 = 0) : (evA s e).2.txt = s.txt ++ downM (evL e) ∧ (evA s e).2.many = s.many + 1 := by
  cases e with
  | put a x =>
    have h0 : putE s.now s.many (a : Int) x = 0 := h
    refine ⟨?_, ?_⟩
    · show (putS s a x).2.txt = _
      unfold putS; simp only [if_pos h0, Int.toNat_natCast]; rfl
    · show (putS s a x).2.many = _
      unfold putS; simp only [if_pos h0]
  | cut a k =>
    have h0 : cutE s.now s.many (a : Int) (k : Int) = 0 := h
    refine ⟨?_, ?_⟩
    · show (cutS s a k).2.txt = _
      unfold cutS; simp only [if_pos h0, Int.toNat_natCast]; rfl
    · show (cutS s a k).2.many = _
      unfold cutS; simp only [if_pos h0]
theorem evA_small {s : BS} (e : Ev) (h : Smalls s) : Smalls (evA s e).2 := by
  cases e with
  | put a x => exact putS_small h _ _
  | cut a k => exact cutS_small h _ _
theorem Logs.txt {es : List Ev} {s : BS} (h : Logs es s) : s.txt = txtE es ∧ s.many = es.length ∧ Smalls s ∧ ∀ e ∈ es, evG e := by
  induction h with
  | nil => exact ⟨rfl, rfl, ⟨by simp, by simp, by simp⟩, by simp⟩
  | snoc h he hg ih =>
    obtain ⟨i1, i2, i3, i4⟩ := ih
    obtain ⟨k1, k2⟩ := evA_ok he
    refine ⟨by rw [k1, i1]; simp [txtE], by rw [k2, i2]; simp, evA_small _ i3, ?_⟩
    intro e' he'
    rcases List.mem_append.1 he' with h1 | h1
    · exact i4 e' h1
    · rw [List.mem_singleton.1 h1]; exact hg
/-- What the first j changes make. -/
def stE : List Ev → Nat → BS
  | _, 0 => ⟨[], [], 0⟩
  | [], _ + 1 => ⟨[], [], 0⟩
  | es, j + 1 => (evA (stE es j) (es.getD j (.cut 0 0))).2
theorem getD_append_left' (es : List Ev) (e d : Ev) (j : Nat) (h : j < es.length) : (es ++ [e]).getD j d = es.getD j d := by
  simp [List.getD_eq_getElem?_getD, List.getElem?_append_left h]
theorem stE_append (es : List Ev) (e : Ev) : ∀ j, j ≤ es.length → stE (es ++ [e]) j = stE es j
  | 0, _ => by cases es <;> rfl
  | j + 1, h => by
    cases es with
    | nil => simp at h
    | cons a es =>
      show (evA (stE ((a :: es) ++ [e]) j) (((a :: es) ++ [e]).getD j (.cut 0 0))).2 = (evA (stE (a :: es) j) ((a :: es).getD j (.cut 0 0))).2
      rw [stE_append (a :: es) e j (by omega), getD_append_left' (a :: es) e _ j (by omega)]
theorem stE_last (es : List Ev) (e : Ev) : stE (es ++ [e]) (es.length + 1) = (evA (stE (es ++ [e]) es.length) e).2 := by
  have h : (es ++ [e]).getD es.length (.cut 0 0) = e := by simp [List.getD_eq_getElem?_getD]
  cases es with
  | nil => rfl
  | cons a es =>
    show (evA (stE ((a :: es) ++ [e]) (a :: es).length) (((a :: es) ++ [e]).getD (a :: es).length (.cut 0 0))).2 = _
    rw [h]
theorem Logs.at_ {es : List Ev} {s : BS} (h : Logs es s) : stE es es.length = s ∧ ∀ j, j ≤ es.length → Logs (es.take j) (stE es j) ∧ (j < es.length → (evA (stE es j) (es.getD j (.cut 0 0))).1 = 0 ∧ evG (es.getD j (.cut 0 0)) ∧ stE es (j + 1) = (evA (stE es j) (es.getD j (.cut 0 0))).2) := by
  induction h with
  | nil =>
    refine ⟨rfl, fun j hj => ?_⟩
    obtain rfl : j = 0 := by simpa using hj
    exact ⟨.nil, fun h => absurd h (by simp)⟩
  | @snoc es s e h he hg ih =>
    obtain ⟨i1, i2⟩ := ih
    have hl : stE (es ++ [e]) (es ++ [e]).length = (evA s e).2 := by
      rw [List.length_append, List.length_cons, List.length_nil, Nat.zero_add, stE_last, stE_append es e _ (Nat.le_refl _), i1]
    refine ⟨hl, fun j hj => ?_⟩
    rw [List.length_append, List.length_cons, List.length_nil, Nat.zero_add] at hj
    rcases Nat.lt_or_ge j es.length with hlt | hge
    · obtain ⟨k1, k2⟩ := i2 j (by omega)
      rw [stE_append es e j (by omega), List.take_append_of_le_length (by omega), getD_append_left' es e _ j hlt, stE_append es e (j + 1) (by omega)]
      exact ⟨k1, fun _ => k2 hlt⟩
    · rcases Nat.eq_or_lt_of_le hge with heq | hlt
      · subst heq
        have hget : (es ++ [e]).getD es.length (.cut 0 0) = e := by simp [List.getD_eq_getElem?_getD]
        rw [hget, stE_last, stE_append es e _ (Nat.le_refl _), i1, List.take_append_of_le_length (Nat.le_refl _), List.take_length]
        exact ⟨h, fun _ => ⟨he, hg, rfl⟩⟩
      · obtain rfl : j = es.length + 1 := by omega
        have e1 : (es ++ [e]).length = es.length + 1 := by simp
        rw [← e1, hl, List.take_length]
        exact ⟨.snoc h he hg, fun h => absurd h (Nat.lt_irrefl _)⟩

/-- The changes that the first k steps make. -/
def evOf (s : BS) (p q : Int) (x : List UInt8) : List Ev := if (stepS s p q x).1 = 0 then [if x = [] then .cut p.toNat q.toNat else .put p.toNat x] else []
def stEv (L : List Int) (W : List (List UInt8)) : Nat → List Ev
  | 0 => []
  | k + 1 => stEv L W k ++ evOf (stS L W k) (gi L (2 * k)) (gi L (2 * k + 1)) (li W k)
theorem step_ev {es : List Ev} {s : BS} (h : Logs es s) (p q : Int) (x : List UInt8) : Logs (es ++ evOf s p q x) (stepS s p q x).2 := by
  obtain ⟨_, _, ⟨s1, s2, s3⟩, _⟩ := h.txt
  unfold evOf
  by_cases h0 : (stepS s p q x).1 = 0
  · rw [if_pos h0]
    by_cases hx : x = []
    · rw [if_pos hx]
      unfold stepS at h0 ⊢
      rw [if_pos hx] at h0 ⊢
      have hc : cutE s.now s.many p q = 0 := h0
      have hp : 0 ≤ p ∧ p ≤ s.now.length := by
        unfold cutE at hc
        by_cases h1 : 0 ≤ p ∧ p ≤ s.now.length
        · exact h1
        · rw [if_pos h1] at hc; cases hc
      have hq : 1 ≤ q ∧ q ≤ s.now.length - p := by
        unfold cutE at hc
        rw [if_neg (fun h => h hp)] at hc
        by_cases h2 : 1 ≤ q ∧ q ≤ s.now.length - p
        · exact h2
        · rw [if_pos h2] at hc; cases hc
      obtain ⟨a, rfl⟩ : ∃ n : Nat, p = n := ⟨p.toNat, by omega⟩
      obtain ⟨b, rfl⟩ : ∃ n : Nat, q = n := ⟨q.toNat, by omega⟩
      exact .snoc (e := .cut a b) h h0 ⟨by omega, by omega⟩
    · rw [if_neg hx]
      unfold stepS at h0 ⊢
      rw [if_neg hx] at h0 ⊢
      have hc : putE s.now s.many p x = 0 := h0
      have hp : 0 ≤ p ∧ p ≤ s.now.length := by
        unfold putE at hc
        by_cases h1 : 0 ≤ p ∧ p ≤ s.now.length
        · exact h1
        · rw [if_pos h1] at hc; cases hc
      have hw : wordE x = 0 := by
        unfold putE at hc
        rw [if_neg (fun h => h hp)] at hc
        by_cases h2 : wordE x = 0
        · exact h2
        · rw [if_pos h2] at hc; exact absurd hc h2
      have hw2 : x.all lo = true := by
        unfold wordE at hw
        rw [if_neg hx] at hw
        by_cases h8 : 8 < x.length
        · rw [if_pos h8] at hw; cases hw
        · rw [if_neg h8] at hw
          by_cases ha : x.all lo = true
          · exact ha
          · rw [if_neg ha] at hw; cases hw
      obtain ⟨a, rfl⟩ : ∃ n : Nat, p = n := ⟨p.toNat, by omega⟩
      exact .snoc (e := .put a x) h h0 ⟨by omega, (wordE_len hw).2, hw2⟩
  · rw [if_neg h0, List.append_nil]
    have : (stepS s p q x).2 = s := by
      unfold stepS at h0 ⊢
      by_cases hx : x = []
      · rw [if_pos hx] at h0 ⊢
        have hc : ¬ cutE s.now s.many p q = 0 := h0
        unfold cutS; simp only [if_neg hc]
      · rw [if_neg hx] at h0 ⊢
        have hc : ¬ putE s.now s.many p x = 0 := h0
        unfold putS; simp only [if_neg hc]
    rw [this]; exact h
theorem stS_logs (L : List Int) (W : List (List UInt8)) (k : Nat) : Logs (stEv L W k) (stS L W k) := by
  induction k with
  | zero => exact .nil
  | succ k ih => exact step_ev ih _ _ _

/-! Lines of a text. -/
def chunks : List UInt8 → List (List UInt8)
  | [] => []
  | c :: l => if c = 10 then [c] :: chunks l else match chunks l with
    | [] => [[c]]
    | x :: xs => (c :: x) :: xs
theorem chunks_cut (p r : List UInt8) (h : ∀ c ∈ p, c ≠ 10) : chunks (p ++ 10 :: r) = (p ++ [10]) :: chunks r := by
  induction p with
  | nil => simp [chunks]
  | cons c p ih =>
    have hc : c ≠ 10 := h c (by simp)
    show (if c = 10 then [c] :: chunks (p ++ 10 :: r) else match chunks (p ++ 10 :: r) with
      | [] => [[c]]
      | x :: xs => (c :: x) :: xs) = _
    rw [if_neg hc, ih (fun d hd => h d (by simp [hd]))]
    rfl
theorem chunks_one (p : List UInt8) (h : ∀ c ∈ p, c ≠ 10) (h0 : p ≠ []) : chunks p = [p] := by
  induction p with
  | nil => exact absurd rfl h0
  | cons c p ih =>
    have hc : c ≠ 10 := h c (by simp)
    show (if c = 10 then [c] :: chunks p else match chunks p with
      | [] => [[c]]
      | x :: xs => (c :: x) :: xs) = _
    rw [if_neg hc]
    by_cases hp : p = []
    · subst hp; rfl
    · rw [ih (fun d hd => h d (by simp [hd])) hp]

/-! Bytes of a change's line. -/
theorem dd_len : ∀ (k n : Nat), n < 10 ^ (k + 1) → (Lib.decDigits n).length ≤ k + 1
  | 0, n, h => by rw [Lib.decDigits_one (by simpa using h)]; simp
  | k + 1, n, h => by
    by_cases h1 : n < 10
    · rw [Lib.decDigits_one h1]; simp
    · rw [Lib.decDigits, dif_neg h1, List.length_append]
      have h2 : n / 10 < 10 ^ (k + 1) := by
        rw [Nat.div_lt_iff_lt_mul (by decide)]
        rw [Nat.pow_succ] at h
        exact h
      have := dd_len k (n / 10) h2
      simp only [List.length_cons, List.length_nil]; omega
theorem dd_mem (n : Nat) : ∀ c ∈ Lib.decDigits n, 48 ≤ c.toNat ∧ c.toNat ≤ 57 := by
  induction n using Nat.strongRecOn with
  | ind n ih =>
    intro c hc
    by_cases h : n < 10
    · rw [Lib.decDigits_one h, List.mem_singleton] at hc
      subst hc
      have : (UInt8.ofNat (48 + n)).toNat = 48 + n := by
        show (48 + n) % 256 = 48 + n
        omega
      omega
    · rw [Lib.decDigits, dif_neg h, List.mem_append] at hc
      rcases hc with h1 | h1
      · exact ih (n / 10) (by omega) c h1
      · rw [List.mem_singleton] at h1
        subst h1
        have : (UInt8.ofNat (48 + n % 10)).toNat = 48 + n % 10 := by
          show (48 + n % 10) % 256 = 48 + n % 10
          omega
        omega
theorem ne_of_ge {c : UInt8} {d : UInt8} {n : Nat} (h : n ≤ c.toNat) (hd : d.toNat < n) : c ≠ d := fun e => by subst e; omega
/-- Its three words. -/
def evW : Ev → List UInt8 × List UInt8 × List UInt8
  | .put a x => ([112], Lib.decDigits a, x)
  | .cut a k => ([99], Lib.decDigits a, Lib.decDigits k)
theorem evL_eq (e : Ev) : evL e = (evW e).1 ++ [32] ++ (evW e).2.1 ++ [32] ++ (evW e).2.2 := by
  cases e with
  | put a x => show lineM _ _ _ = _; rw [Lib.itoa_nonneg]; rfl
  | cut a k => show lineM _ _ _ = _; rw [Lib.itoa_nonneg, Lib.itoa_nonneg]; rfl
theorem evW_big {e : Ev} (h : evG e) : (∀ c ∈ (evW e).1, 48 ≤ c.toNat) ∧ (∀ c ∈ (evW e).2.1, 48 ≤ c.toNat) ∧ (∀ c ∈ (evW e).2.2, 48 ≤ c.toNat) ∧ (evW e).1.length = 1 ∧ (evW e).2.1.length ≤ 2 ∧ (evW e).2.2.length ≤ 8 := by
  cases e with
  | put a x =>
    obtain ⟨h1, h2, h3⟩ := h
    refine ⟨by intro c hc; simp only [evW, List.mem_singleton] at hc; subst hc; decide, fun c hc => (dd_mem a c hc).1, fun c hc => ?_, rfl, dd_len 1 a (by omega), h2⟩
    have := (List.all_eq_true.1 h3) c hc
    unfold lo at this
    have := of_decide_eq_true this
    omega
  | cut a k =>
    obtain ⟨h1, h2⟩ := h
    refine ⟨by intro c hc; simp only [evW, List.mem_singleton] at hc; subst hc; decide, fun c hc => (dd_mem a c hc).1, fun c hc => (dd_mem k c hc).1, rfl, dd_len 1 a (by omega), Nat.le_trans (dd_len 1 k (by omega)) (by decide)⟩
theorem evT_no10 {e : Ev} (h : evG e) : ∀ c ∈ evT e, c ≠ 10 := by
  obtain ⟨h1, h2, h3, _⟩ := evW_big h
  intro c hc
  unfold evT at hc
  rw [evL_eq] at hc
  simp only [List.mem_append, List.mem_singleton] at hc
  rcases hc with ((((h | h) | h) | h) | h) | h
  · rcases h with h | h
    · exact ne_of_ge (h1 c h) (by decide)
    · subst h; decide
  · exact ne_of_ge (h2 c h) (by decide)
  · subst h; decide
  · exact ne_of_ge (h3 c h) (by decide)
  · subst h; decide
  · exact ne_of_ge (dd_mem _ c h).1 (by decide)
theorem evT_len {e : Ev} (h : evG e) : (evT e).length ≤ 18 := by
  obtain ⟨_, _, _, h4, h5, h6⟩ := evW_big h
  have := dd_len 3 (sumM (evL e)) (by have := sumM_lt (evL e); omega)
  unfold evT
  rw [List.length_append, List.length_append]
  rw [evL_eq] at this ⊢
  simp only [List.length_append, List.length_cons, List.length_nil] at this ⊢
  omega
theorem txtE_cons (e : Ev) (es : List Ev) : txtE (e :: es) = evT e ++ 10 :: txtE es := by
  show downM (evL e) ++ txtE es = _
  rw [evT_down]; simp
theorem txtE_len {es : List Ev} (h : ∀ e ∈ es, evG e) : (txtE es).length ≤ 19 * es.length := by
  induction es with
  | nil => simp [txtE]
  | cons e es ih =>
    have h1 := evT_len (h e (by simp))
    have h2 := ih (fun d hd => h d (by simp [hd]))
    rw [txtE_cons]
    simp only [List.length_append, List.length_cons]; omega
/-- The lines of a text that begins with a row of changes. -/
theorem chunks_txt {es : List Ev} (h : ∀ e ∈ es, evG e) (r : List UInt8) (hr : ∀ c ∈ r, c ≠ 10) : chunks (txtE es ++ r) = (es.map fun e => evT e ++ [10]) ++ (if r = [] then [] else [r]) := by
  induction es with
  | nil =>
    show chunks r = _
    by_cases h0 : r = []
    · subst h0; rfl
    · rw [if_neg h0, chunks_one r hr h0]; rfl
  | cons e es ih =>
    rw [txtE_cons, List.append_assoc, List.cons_append, chunks_cut _ _ (evT_no10 (h e (by simp))), ih (fun d hd => h d (by simp [hd]))]
    rfl
/-- How many ends. -/
def ends (l : List UInt8) : Nat := l.countP (· == 10)
theorem ends_none {p : List UInt8} (h : ∀ c ∈ p, c ≠ 10) : ends p = 0 := by
  unfold ends
  rw [List.countP_eq_zero]
  intro c hc
  simpa using h c hc
/-- A beginning of a text of changes: some of them, and a rest without an end. -/
theorem txt_torn {es : List Ev} (h : ∀ e ∈ es, evG e) : ∀ n, ∃ r, (txtE es).take n = txtE (es.take (ends ((txtE es).take n))) ++ r ∧ (∀ c ∈ r, c ≠ 10) ∧ ends ((txtE es).take n) ≤ es.length := by
  induction es with
  | nil => intro n; exact ⟨[], by simp [txtE, ends], by simp, by simp [txtE, ends]⟩
  | cons e es ih =>
    intro n
    have hno := evT_no10 (h e (by simp))
    rw [txtE_cons]
    rcases Nat.lt_or_ge n ((evT e).length + 1) with hlt | hge
    · rw [List.take_append_of_le_length (by omega)]
      have hr : ∀ c ∈ (evT e).take n, c ≠ 10 := fun c hc => hno c (List.mem_of_mem_take hc)
      rw [ends_none hr]
      exact ⟨_, by simp [txtE], hr, by omega⟩
    · obtain ⟨m, rfl⟩ : ∃ m, n = (evT e).length + 1 + m := ⟨n - ((evT e).length + 1), by omega⟩
      have ht : (evT e ++ 10 :: txtE es).take ((evT e).length + 1 + m) = evT e ++ 10 :: (txtE es).take m := by
        rw [show evT e ++ 10 :: txtE es = (evT e ++ [10]) ++ txtE es by simp, show (evT e).length + 1 + m = (evT e ++ [10]).length + m by simp, List.take_length_add_append]
        simp
      rw [ht]
      have he : ends (evT e ++ 10 :: (txtE es).take m) = ends ((txtE es).take m) + 1 := by
        unfold ends
        rw [List.countP_append, List.countP_cons]
        have := ends_none hno
        unfold ends at this
        rw [this]; simp
      obtain ⟨r, h1, h2, h3⟩ := ih (fun d hd => h d (by simp [hd])) m
      rw [he, List.take_succ_cons, txtE_cons]
      refine ⟨r, ?_, h2, by simp; omega⟩
      conv => lhs; rw [h1]
      simp
end Go.Proofs.YtgmmlblefealjaaDoor
