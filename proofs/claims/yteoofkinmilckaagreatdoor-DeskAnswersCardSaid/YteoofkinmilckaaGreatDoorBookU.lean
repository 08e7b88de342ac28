/- A line of a log with one byte turned: it is told that it is wrong. No condition. -/
import Derived.Test.YteoofkinmilckaaGreatDoorBookZ
namespace Go.Proofs.YteoofkinmilckaaGreatDoor
open Go.RowKit IntWalk

theorem numO_dec (n : Nat) (h : n ≤ 1000000) : numO (Lib.decDigits n) = some n := by
  have hl := dd_len 6 n (by omega)
  have ha : Lib.atoiAll (Lib.decDigits n) = .ok (n : Int) := by
    rw [Lib.atoiAll_short _ (by omega), atoi_dec]; rfl
  unfold numO
  rw [ha]
  simp only []
  rw [if_pos ⟨by omega, Lib.itoa_nonneg n⟩]
  simp
theorem dd_long {u : Nat} (h : 100 ≤ u) : 3 ≤ (Lib.decDigits u).length := by
  rw [Lib.decDigits, dif_neg (by omega), Lib.decDigits, dif_neg (by omega)]
  simp only [List.length_append, List.length_cons, List.length_nil]
  have := List.length_pos_iff.2 (dec_ne (u / 10 / 10))
  omega
theorem dd_big {n : Nat} (h : 5 ≤ (Lib.decDigits n).length) : 9973 < n := by
  rcases Nat.lt_or_ge 9973 n with h1 | h1
  · exact h1
  · have := dd_len 3 n (by omega)
    omega
theorem num_digits {l : List UInt8} {n : Nat} (h : numO l = some n) : ∀ c ∈ l, 48 ≤ c.toNat ∧ c.toNat ≤ 57 := by
  obtain ⟨h1, _⟩ := numO_some h
  rw [h1]
  exact dd_mem n

/-! The sum of a text with one byte turned. -/
theorem bu_set {l : List UInt8} {i j : Nat} {b : UInt8} (hi : i < l.length) : bu (l.set i b) j = if i = j then b else bu l j := by
  unfold bu
  rw [List.getElem?_set]
  by_cases h : i = j
  · subst h; simp [hi]
  · simp [h]
theorem sumP_set {l : List UInt8} {i : Nat} {b : UInt8} (hi : i < l.length) : ∀ k, sumP (l.set i b) k + (if i < k then (i + 1) * (bu l i).toNat else 0) = sumP l k + (if i < k then (i + 1) * b.toNat else 0) := by
  intro k
  induction k with
  | zero => simp [sumP]
  | succ k ih =>
    simp only [sumP]
    rw [bu_set hi]
    by_cases h : i = k
    · subst h
      simp only [if_true, Nat.lt_succ_self, Nat.lt_irrefl, if_false] at ih ⊢
      omega
    · simp only [h, if_false]
      by_cases h2 : i < k
      · simp only [h2, if_true, show i < k + 1 by omega] at ih ⊢
        omega
      · simp only [h2, if_false, show ¬ i < k + 1 by omega] at ih ⊢
        omega
theorem sumM_set {l : List UInt8} {i : Nat} {b : UInt8} (hi : i < l.length) (hl : l.length ≤ 30) (hb : b ≠ bu l i) : sumM (l.set i b) ≠ sumM l := by
  have h := sumP_set (b := b) hi l.length
  rw [if_pos hi, if_pos hi] at h
  have h1 := bu_lt l i
  have h2 : b.toNat < 256 := b.toNat_lt
  have hne : b.toNat ≠ (bu l i).toNat := fun e => hb (UInt8.toNat_inj.1 e)
  unfold sumM
  rw [List.length_set]
  generalize sumP (l.set i b) l.length = X at *
  generalize sumP l l.length = Y at *
  generalize (bu l i).toNat = p at *
  generalize b.toNat = q at *
  rcases Nat.lt_or_gt_of_ne hne with hlt | hgt
  · obtain ⟨d, rfl⟩ : ∃ d, p = q + d := ⟨p - q, by omega⟩
    have e : (i + 1) * (q + d) = (i + 1) * q + (i + 1) * d := Nat.mul_add ..
    have e1 : (i + 1) * d ≤ 30 * 255 := Nat.mul_le_mul (by omega) (by omega)
    have e2 : 1 ≤ (i + 1) * d := Nat.mul_pos (by omega) (by omega)
    generalize (i + 1) * d = m at *
    omega
  · obtain ⟨d, rfl⟩ : ∃ d, q = p + d := ⟨q - p, by omega⟩
    have e : (i + 1) * (p + d) = (i + 1) * p + (i + 1) * d := Nat.mul_add ..
    have e1 : (i + 1) * d ≤ 30 * 255 := Nat.mul_le_mul (by omega) (by omega)
    have e2 : 1 ≤ (i + 1) * d := Nat.mul_pos (by omega) (by omega)
    generalize (i + 1) * d = m at *
    omega

/-! What a line that is parted at its last blank does. -/
theorem lineR_part (s : BS) (p d : List UInt8) (h : ∀ c ∈ d, c ≠ 32) (hw : numO d = none ∨ ∃ n, numO d = some n ∧ (n ≠ sumM p ∨ (splitL p).length ≠ 3)) :
    (lineR s (p ++ 32 :: d)).1 = 2 ∨ (lineR s (p ++ 32 :: d)).1 = 6 := by
  unfold lineR
  rw [lastIdx_at p d h, if_neg (by omega), Int.toNat_natCast]
  have e1 : (p ++ 32 :: d).drop (p.length + 1) = d := by rw [show p ++ 32 :: d = (p ++ [32]) ++ d by simp, show p.length + 1 = (p ++ [32]).length by simp, List.drop_left]
  have e2 : (p ++ 32 :: d).take p.length = p := List.take_left
  rw [e1, e2]
  rcases hw with h0 | ⟨n, h0, h1⟩
  · rw [h0]; exact .inl rfl
  · rw [h0]
    simp only []
    by_cases hn : n = sumM p
    · rw [if_neg (fun h => h hn)]
      rcases h1 with h1 | h1
      · exact absurd hn h1
      · left
        match splitL p, h1 with
        | [], _ => rfl
        | [_], _ => rfl
        | [_, _], _ => rfl
        | [_, _, _], h => exact absurd rfl h
        | _ :: _ :: _ :: _ :: _, _ => rfl
    · rw [if_pos hn]; exact .inr rfl
theorem split4 (a b c d : List UInt8) (ha : ∀ x ∈ a, x ≠ 32) (hb : ∀ x ∈ b, x ≠ 32) (hc : ∀ x ∈ c, x ≠ 32) (hd : ∀ x ∈ d, x ≠ 32) : (splitL (a ++ 32 :: (b ++ 32 :: (c ++ 32 :: d)))).length = 4 := by
  have i1 : Lib.indexB ⟨(a ++ 32 :: (b ++ 32 :: (c ++ 32 :: d))).toArray⟩ ⟨#[32]⟩ = (a.length : Int) := index_sp a _ ha
  have i2 : Lib.indexB ⟨(b ++ 32 :: (c ++ 32 :: d)).toArray⟩ ⟨#[32]⟩ = (b.length : Int) := index_sp b _ hb
  have i3 : Lib.indexB ⟨(c ++ 32 :: d).toArray⟩ ⟨#[32]⟩ = (c.length : Int) := index_sp c _ hc
  have i4 : Lib.indexB ⟨d.toArray⟩ ⟨#[32]⟩ = -1 := index_no d hd
  have s1 : (ByteArray.mk #[32]).size = 1 := rfl
  rw [splitL_count, Lib.countB_hit _ _ a.length (by decide) i1, s1, cut_sp, Lib.countB_hit _ _ b.length (by decide) i2, s1, cut_sp, Lib.countB_hit _ _ c.length (by decide) i3, s1, cut_sp, Lib.countB_miss _ _ i4]
theorem sumP_up (l : List UInt8) : ∀ k, 2 * sumP l k ≤ k * (k + 1) * 255
  | 0 => by simp [sumP]
  | k + 1 => by
    have h1 := sumP_up l k
    have h2 : (k + 1) * (bu l k).toNat ≤ (k + 1) * 255 := Nat.mul_le_mul_left _ (by have := bu_lt l k; omega)
    have e : (k + 1) * (k + 1 + 1) * 255 = k * (k + 1) * 255 + 2 * ((k + 1) * 255) := by
      rw [show (k + 1) * (k + 1 + 1) = k * (k + 1) + 2 * (k + 1) by rw [Nat.mul_add (k + 1) (k + 1) 1, Nat.add_mul k 1 (k + 1)]; omega, Nat.add_mul]; omega
    simp only [sumP]
    omega
theorem sumP_mono (l : List UInt8) {k : Nat} : ∀ m, sumP l k ≤ sumP l (k + m)
  | 0 => Nat.le_refl _
  | m + 1 => Nat.le_trans (sumP_mono l m) (by show _ ≤ sumP l (k + m) + _; omega)
theorem lo_letter {x : List UInt8} (h : x.all lo = true) : ∀ c ∈ x, 97 ≤ c.toNat := fun c hc => (of_decide_eq_true ((List.all_eq_true.1 h) c hc)).1
theorem bu_left {a b : List UInt8} {i : Nat} (h : i < a.length) : bu (a ++ b) i = bu a i := by
  unfold bu
  rw [List.getElem?_append_left h]
theorem bu_at (a : List UInt8) (c : UInt8) (b : List UInt8) : bu (a ++ c :: b) a.length = c := by
  unfold bu
  rw [List.getElem?_append_right (Nat.le_refl _)]; simp
theorem bu_right (a : List UInt8) (c : UInt8) (b : List UInt8) (j : Nat) : bu (a ++ c :: b) (a.length + 1 + j) = bu b j := by
  unfold bu
  rw [List.getElem?_append_right (by omega), show a.length + 1 + j - a.length = j + 1 by omega, List.getElem?_cons_succ]

/-- A line of a log, one byte turned: it is told. -/
theorem turned {e : Ev} (hG : evG e) {s0 : BS} (hok : (evA s0 e).1 = 0) (s : BS) {i : Nat} {b : UInt8} (hi : i < (evT e).length) (hb : b ≠ bu (evT e) i) :
    (lineR s ((evT e).set i b)).1 = 2 ∨ (lineR s ((evT e).set i b)).1 = 6 := by
  have hT : evT e = evL e ++ 32 :: Lib.decDigits (sumM (evL e)) := by unfold evT; simp
  have hlen := evT_len hG
  have hu := sumM_lt (evL e)
  have hU := dd_no (sumM (evL e))
  have hnum := numO_dec (sumM (evL e)) (by omega)
  rw [hT] at hi hb hlen ⊢
  have hPl : (evL e).length ≤ 30 := by rw [List.length_append] at hlen; omega
  rcases Nat.lt_trichotomy i (evL e).length with hlt | heq | hgt
  · rw [List.set_append_left _ _ hlt]
    rw [bu_left hlt] at hb
    exact lineR_part s _ _ hU (.inr ⟨_, hnum, .inl fun h => sumM_set hlt hPl hb h.symm⟩)
  · subst heq
    rw [bu_at] at hb
    rw [List.set_append_right _ _ (Nat.le_refl _), Nat.sub_self, List.set_cons_zero]
    cases e with
    | put a x =>
      obtain ⟨g1, g2, g3⟩ := hG
      have hx : 1 ≤ x.length := by
        have h0 : putE s0.now s0.many (a : Int) x = 0 := hok
        unfold putE at h0
        by_cases h1 : 0 ≤ (a : Int) ∧ (a : Int) ≤ s0.now.length
        rotate_left
        · rw [if_pos h1] at h0; cases h0
        rw [if_neg (fun h => h h1)] at h0
        by_cases h2 : wordE x = 0
        · exact (wordE_len h2).1
        · rw [if_pos h2] at h0; exact absurd h0 h2
      have hL : evL (.put a x) = [112] ++ 32 :: (Lib.decDigits a ++ 32 :: x) := by rw [evL_eq]; simp [evW]
      generalize Lib.decDigits (sumM (evL (.put a x))) = U at *
      rw [hL, show [112] ++ 32 :: (Lib.decDigits a ++ 32 :: x) ++ b :: U = ([112] ++ 32 :: Lib.decDigits a) ++ 32 :: (x ++ b :: U) by simp]
      refine lineR_part s _ _ (fun c hc => ?_) (.inl ?_)
      · rw [List.mem_append, List.mem_cons] at hc
        rcases hc with h | h | h
        · exact lo_ge g3 c h
        · rw [h]; exact hb
        · exact hU c h
      · cases hn : numO (x ++ b :: U) with
        | none => rfl
        | some n =>
          obtain ⟨y, ys, rfl⟩ : ∃ y ys, x = y :: ys := by
            cases x with
            | nil => simp at hx
            | cons y ys => exact ⟨y, ys, rfl⟩
          have h1 := num_digits hn y (by simp)
          have h2 := lo_letter g3 y (by simp)
          omega
    | cut a k =>
      obtain ⟨g1, g2⟩ := hG
      have hL : evL (.cut a k) = [99] ++ 32 :: (Lib.decDigits a ++ 32 :: Lib.decDigits k) := by rw [evL_eq]; simp [evW]
      have hPs : (evL (.cut a k)).length ≤ 7 := by
        rw [hL]
        have q1 := dd_len 1 a (by omega)
        have q2 := dd_len 1 k (by omega)
        simp only [List.length_append, List.length_cons, List.length_nil]; omega
      have hP2 : 2 ≤ (evL (.cut a k)).length := by rw [hL]; simp
      have hlow : 100 ≤ sumM (evL (.cut a k)) := by
        have h1 := sumP_up (evL (.cut a k)) (evL (.cut a k)).length
        have h2 : sumP (evL (.cut a k)) 2 ≤ sumP (evL (.cut a k)) (2 + ((evL (.cut a k)).length - 2)) := sumP_mono _ _
        rw [show 2 + ((evL (.cut a k)).length - 2) = (evL (.cut a k)).length by omega] at h2
        have h3 : sumP (evL (.cut a k)) 2 = 163 := by rw [hL]; rfl
        have h4 : (evL (.cut a k)).length * ((evL (.cut a k)).length + 1) ≤ 7 * 8 := Nat.mul_le_mul hPs (by omega)
        have h5 : sumM (evL (.cut a k)) = sumP (evL (.cut a k)) (evL (.cut a k)).length % 9973 := rfl
        generalize (evL (.cut a k)).length * ((evL (.cut a k)).length + 1) = z at *
        rw [h5]
        omega
      have hUl := dd_long hlow
      generalize Lib.decDigits (sumM (evL (.cut a k))) = U at *
      have hsum := fun p => sumM_lt p
      rw [hL, show [99] ++ 32 :: (Lib.decDigits a ++ 32 :: Lib.decDigits k) ++ b :: U = ([99] ++ 32 :: Lib.decDigits a) ++ 32 :: (Lib.decDigits k ++ b :: U) by simp]
      refine lineR_part s _ _ (fun c hc => ?_) ?_
      · rw [List.mem_append, List.mem_cons] at hc
        rcases hc with h | h | h
        · exact dd_no k c h
        · rw [h]; exact hb
        · exact hU c h
      · cases hn : numO (Lib.decDigits k ++ b :: U) with
        | none => exact .inl rfl
        | some n =>
          refine .inr ⟨n, rfl, .inl fun h => ?_⟩
          obtain ⟨h1, _⟩ := numO_some hn
          have h2 := congrArg List.length h1
          have h3 := List.length_pos_iff.2 (dec_ne k)
          rw [List.length_append, List.length_cons] at h2
          have h4 := dd_big (n := n) (by omega)
          have := hsum ([99] ++ 32 :: Lib.decDigits a)
          omega
  · obtain ⟨j, rfl⟩ : ∃ j, i = (evL e).length + 1 + j := ⟨i - ((evL e).length + 1), by omega⟩
    rw [bu_right] at hb
    have hj : j < (Lib.decDigits (sumM (evL e))).length := by rw [List.length_append, List.length_cons] at hi; omega
    rw [List.set_append_right _ _ (by omega), show (evL e).length + 1 + j - (evL e).length = j + 1 by omega, List.set_cons_succ]
    by_cases hb32 : b = 32
    · subst hb32
      obtain ⟨w1, w2, w3, _, _, _⟩ := evW_big hG
      have hs : (Lib.decDigits (sumM (evL e))).set j 32 = (Lib.decDigits (sumM (evL e))).take j ++ 32 :: (Lib.decDigits (sumM (evL e))).drop (j + 1) := by
        rw [List.set_eq_take_append_cons_drop, if_pos hj]
      rw [hs]
      have h4 := split4 (evW e).1 (evW e).2.1 (evW e).2.2 ((Lib.decDigits (sumM (evL e))).take j) (fun c hc => ne_of_ge (w1 c hc) (by decide)) (fun c hc => ne_of_ge (w2 c hc) (by decide)) (fun c hc => ne_of_ge (w3 c hc) (by decide)) (fun c hc => hU c (List.mem_of_mem_take hc))
      have hL : evL e = (evW e).1 ++ 32 :: ((evW e).2.1 ++ 32 :: (evW e).2.2) := by rw [evL_eq]; simp
      have hL4 : evL e ++ 32 :: (Lib.decDigits (sumM (evL e))).take j = (evW e).1 ++ 32 :: ((evW e).2.1 ++ 32 :: ((evW e).2.2 ++ 32 :: (Lib.decDigits (sumM (evL e))).take j)) := by
        conv => lhs; lhs; rw [hL]
        simp
      rw [← hL4] at h4
      generalize Lib.decDigits (sumM (evL e)) = U at *
      rw [show evL e ++ 32 :: (U.take j ++ 32 :: U.drop (j + 1)) = (evL e ++ 32 :: U.take j) ++ 32 :: U.drop (j + 1) by simp]
      refine lineR_part s _ _ (fun c hc => hU c (List.mem_of_mem_drop hc)) ?_
      cases hn : numO (U.drop (j + 1)) with
      | none => exact .inl rfl
      | some n => exact .inr ⟨n, rfl, .inr (by rw [h4]; decide)⟩
    · refine lineR_part s _ _ (fun c hc => ?_) ?_
      · rcases List.mem_or_eq_of_mem_set hc with h | h
        · exact hU c h
        · rw [h]; exact hb32
      · cases hn : numO ((Lib.decDigits (sumM (evL e))).set j b) with
        | none => exact .inl rfl
        | some n =>
          refine .inr ⟨n, rfl, .inl fun h => ?_⟩
          obtain ⟨h1, _⟩ := numO_some hn
          rw [h] at h1
          have h2 := bu_set (l := Lib.decDigits (sumM (evL e))) (j := j) (b := b) hj
          rw [h1, if_pos rfl] at h2
          exact hb h2.symm
end Go.Proofs.YteoofkinmilckaaGreatDoor
