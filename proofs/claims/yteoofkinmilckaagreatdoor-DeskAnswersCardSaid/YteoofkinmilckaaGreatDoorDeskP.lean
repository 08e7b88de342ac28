/- Plain laws on sessions: what a book holds, that its own log opens as it, beginnings of a session, ends of its answers. No condition. -/
import Derived.Test.YteoofkinmilckaaGreatDoorDeskM
import Derived.Test.YteoofkinmilckaaGreatDoorBookY
namespace Go.Proofs.YteoofkinmilckaaGreatDoor
open Go.RowKit Go.Shelf IntWalk

/-- A book that changes made; its text is letters. -/
def Inv (s : BS) : Prop := (∃ es, Logs es s) ∧ s.now.all lo = true
theorem Inv.nil : Inv eBS := ⟨⟨[], .nil⟩, rfl⟩
theorem put_lo {s : BS} {n : Int} {y : List UInt8} (h : (putS s n y).1 = 0) : y ≠ [] ∧ y.all lo = true := by
  have hc : putE s.now s.many n y = 0 := h
  have hp : 0 ≤ n ∧ n ≤ s.now.length := by
    unfold putE at hc
    by_cases h1 : 0 ≤ n ∧ n ≤ s.now.length
    · exact h1
    · rw [if_pos h1] at hc; cases hc
  have hw : wordE y = 0 := by
    unfold putE at hc
    rw [if_neg (fun h => h hp)] at hc
    by_cases h2 : wordE y = 0
    · exact h2
    · rw [if_pos h2] at hc; exact absurd hc h2
  have hx : y ≠ [] := fun e => by subst e; exact absurd hw (by decide)
  refine ⟨hx, ?_⟩
  unfold wordE at hw
  rw [if_neg hx] at hw
  by_cases h8 : 8 < y.length
  · rw [if_pos h8] at hw; cases hw
  · rw [if_neg h8] at hw
    by_cases ha : y.all lo = true
    · exact ha
    · rw [if_neg ha] at hw; cases hw
theorem all_take {p : UInt8 → Bool} {l : List UInt8} (h : l.all p = true) (k : Nat) : (l.take k).all p = true := by
  rw [List.all_eq_true] at h ⊢
  exact fun x hx => h x (List.mem_of_mem_take hx)
theorem all_drop {p : UInt8 → Bool} {l : List UInt8} (h : l.all p = true) (k : Nat) : (l.drop k).all p = true := by
  rw [List.all_eq_true] at h ⊢
  exact fun x hx => h x (List.mem_of_mem_drop hx)
theorem Inv.put {s : BS} (h : Inv s) (n : Int) (y : List UInt8) : Inv (putS s n y).2 := by
  by_cases h0 : (putS s n y).1 = 0
  · obtain ⟨hy, hl⟩ := put_lo h0
    obtain ⟨es, he⟩ := h.1
    have hs := step_ev he n 0 y
    have e : stepS s n 0 y = putS s n y := if_neg hy
    rw [e] at hs
    refine ⟨⟨_, hs⟩, ?_⟩
    have hc : putE s.now s.many n y = 0 := h0
    unfold putS
    simp only [if_pos hc]
    show (putN s.now n.toNat y).all lo = true
    unfold putN
    rw [List.all_append, List.all_append, all_take h.2, all_drop h.2, hl]
    rfl
  · rw [putS_err h0]; exact h
theorem Inv.cut {s : BS} (h : Inv s) (n k : Int) : Inv (cutS s n k).2 := by
  by_cases h0 : (cutS s n k).1 = 0
  · obtain ⟨es, he⟩ := h.1
    have hs := step_ev he n k []
    have e : stepS s n k [] = cutS s n k := if_pos rfl
    rw [e] at hs
    refine ⟨⟨_, hs⟩, ?_⟩
    have hc : cutE s.now s.many n k = 0 := h0
    unfold cutS
    simp only [if_pos hc]
    show (cutN s.now n.toNat k.toNat).all lo = true
    unfold cutN
    rw [List.all_append, all_take h.2, all_drop h.2]
    rfl
  · rw [cutS_err h0]; exact h
theorem Inv.line {s : BS} (h : Inv s) (l : List UInt8) : Inv (lineR s l).2 := by
  unfold lineR
  split
  · exact h
  split
  · exact h
  split
  · exact h
  split
  · split
    · exact h
    · split
      · exact h.put _ _
      · split
        · split
          · exact h
          · exact h.cut _ _
        · exact h
  · exact h
theorem Inv.openD : ∀ (ls : List (List UInt8)) (s : BS) (k : Nat), Inv s → Inv (openD ls s k).1
  | [], _, _, h => h
  | l :: ls, s, k, h => by
    unfold Go.Proofs.YteoofkinmilckaaGreatDoor.openD
    split
    · exact Inv.nil
    · exact Inv.openD ls _ _ (h.line l)
theorem Inv.openR (T : List UInt8) : Inv (openR T).1 := by
  unfold Go.Proofs.YteoofkinmilckaaGreatDoor.openR
  split
  · exact Inv.nil
  · exact Inv.openD _ _ _ Inv.nil
theorem Inv.crash {s : BS} (h : Inv s) (n : Nat) : Inv (crashA s n).1 := by
  unfold crashA
  split
  · exact Inv.openR _
  · exact h
theorem lo_10 {l : List UInt8} (h : l.all lo = true) : ∀ c ∈ l, c ≠ 10 := fun c hc e => by
  rw [List.all_eq_true] at h
  have := h c hc
  rw [e] at this
  exact absurd this (by decide)
/-- A text without a line's end. -/
def NoNl (l : List UInt8) : Prop := ∀ c ∈ l, c ≠ 10
theorem dec_nl (n : Nat) : NoNl (Lib.decDigits n) := fun c hc e => by
  have := (dd_mem n c hc).1
  rw [e] at this
  exact absurd this (by decide)
theorem err_nl (k : Int) : NoNl (errName k) := by
  unfold errName NoNl
  repeat' split
  all_goals decide
theorem told_nl (k : Int) : NoNl (toldM k) := by
  unfold toldM
  split
  · unfold NoNl; decide
  · exact err_nl k
theorem bad_nl : NoNl badM := by unfold NoNl badM; decide
theorem NoNl.app {a b : List UInt8} (h : NoNl a) (h' : NoNl b) : NoNl (a ++ b) := fun c hc => by
  rcases List.mem_append.1 hc with hc | hc
  · exact h c hc
  · exact h' c hc
theorem find_nl (now x : List UInt8) : NoNl (findA now x) := by
  unfold findA
  split
  · exact dec_nl _
  · exact told_nl _
theorem crash_nl (s : BS) (n : Nat) : NoNl (crashA s n).2 := by
  unfold crashA
  split
  · exact NoNl.app (by unfold NoNl; decide) (dec_nl _)
  · exact told_nl _
theorem ansW_inv {s : BS} (h : Inv s) (ws : List (List UInt8)) : Inv (ansW s ws).1 ∧ NoNl (ansW s ws).2 := by
  have hb : Inv s ∧ NoNl badM := ⟨h, bad_nl⟩
  cases ws with
  | nil => exact hb
  | cons a r =>
    by_cases a0 : a = [112, 117, 116]
    · subst a0
      by_cases hr : r.length = 2
      · obtain ⟨x, y, rfl⟩ := two_of hr
        rw [ansW_put]
        cases numD x with
        | none => exact hb
        | some n => exact ⟨h.put _ _, told_nl _⟩
      · rw [ansW_put_len s r hr]; exact hb
    by_cases a1 : a = [99, 117, 116]
    · subst a1
      by_cases hr : r.length = 2
      · obtain ⟨x, y, rfl⟩ := two_of hr
        rw [ansW_cut]
        cases numD x with
        | none => exact hb
        | some n =>
          cases numD y with
          | none => exact hb
          | some k => exact ⟨h.cut _ _, told_nl _⟩
      · rw [ansW_cut_len s r hr]; exact hb
    by_cases a2 : a = [110, 111, 119]
    · subst a2
      by_cases hr : r.length = 0
      · obtain rfl := List.length_eq_zero_iff.1 hr
        exact ⟨h, NoNl.app (lo_10 h.2) (by unfold NoNl; decide)⟩
      · rw [ansW_now_len s r hr]; exact hb
    by_cases a3 : a = [102, 105, 110, 100]
    · subst a3
      by_cases hr : r.length = 1
      · obtain ⟨x, rfl⟩ := one_of hr
        exact ⟨h, find_nl _ _⟩
      · rw [ansW_find_len s r hr]; exact hb
    by_cases a4 : a = [99, 114, 97, 115, 104]
    · subst a4
      by_cases hr : r.length = 1
      · obtain ⟨x, rfl⟩ := one_of hr
        rw [ansW_crash]
        cases numD x with
        | none => exact hb
        | some n => exact ⟨h.crash _, crash_nl _ _⟩
      · rw [ansW_crash_len s r hr]; exact hb
    rw [lookV_none (by unfold lookV; rw [if_neg a0, if_neg a1, if_neg a2, if_neg a3, if_neg a4])]
    exact hb
/-- Answers: whole lines. -/
theorem sesD_inv (xs : List (List UInt8)) : Inv (sesD xs).1 ∧ ((sesD xs).2 = [] ∨ ∃ p, (sesD xs).2 = p ++ [10]) ∧ (sesD xs).2.count 10 = xs.length := by
  suffices h : ∀ (xs : List (List UInt8)) (p : BS × List UInt8), Inv p.1 → (p.2 = [] ∨ ∃ q, p.2 = q ++ [10]) → Inv (xs.foldl stepD p).1 ∧ ((xs.foldl stepD p).2 = [] ∨ ∃ q, (xs.foldl stepD p).2 = q ++ [10]) ∧ (xs.foldl stepD p).2.count 10 = p.2.count 10 + xs.length by
    obtain ⟨h1, h2, h3⟩ := h xs (eBS, []) Inv.nil (.inl rfl)
    exact ⟨h1, h2, by unfold sesD; rw [h3]; simp⟩
  intro xs
  induction xs with
  | nil => intro p h1 h2; exact ⟨h1, h2, by simp⟩
  | cons x xs ih =>
    intro p h1 h2
    obtain ⟨a1, a2⟩ := ansW_inv h1 (splitL (Lib.trimSuffix x [10]))
    obtain ⟨q1, q2, q3⟩ := ih (stepD p x) a1 (.inr ⟨_, rfl⟩)
    refine ⟨q1, q2, ?_⟩
    rw [List.foldl_cons, q3]
    have h0 : (answerD p.1 (Lib.trimSuffix x [10])).2.count 10 = 0 := List.count_eq_zero.2 fun hc => a2 10 hc rfl
    show (p.2 ++ (answerD p.1 (Lib.trimSuffix x [10])).2 ++ [10]).count 10 + xs.length = _
    rw [List.count_append, List.count_append, h0]
    simp; omega
theorem ses_pre (xs : List (List UInt8)) (p : BS × List UInt8) : ∃ t, (xs.foldl stepD p).2 = p.2 ++ t := by
  induction xs generalizing p with
  | nil => exact ⟨[], by simp⟩
  | cons x xs ih =>
    obtain ⟨t, ht⟩ := ih (stepD p x)
    refine ⟨(answerD p.1 (Lib.trimSuffix x [10])).2 ++ [10] ++ t, ?_⟩
    rw [List.foldl_cons, ht]
    show p.2 ++ (answerD p.1 (Lib.trimSuffix x [10])).2 ++ [10] ++ t = _
    simp
theorem sesD_app (a b : List (List UInt8)) : sesD (a ++ b) = b.foldl stepD (sesD a) := by unfold sesD; rw [List.foldl_append]
theorem chunks_app : ∀ (n : Nat) (A B : List UInt8), A.length ≤ n → (A = [] ∨ bu A (A.length - 1) = 10) → chunks (A ++ B) = chunks A ++ chunks B := by
  intro n
  induction n with
  | zero =>
    intro A B hn _
    obtain rfl := List.length_eq_zero_iff.1 (by omega : A.length = 0)
    simp [chunks]
  | succ n ih =>
    intro A B hn hA
    rcases hA with rfl | hA
    · simp [chunks]
    rcases cut_part 10 A with h | ⟨a, t, rfl, h⟩
    · by_cases h0 : A = []
      · subst h0; simp [chunks]
      · have := List.length_pos_iff.2 h0
        exact absurd hA (h _ (bu_mem (by omega)))
    · rw [List.append_assoc, List.cons_append, chunks_cut a _ h, chunks_cut a _ h, List.cons_append]
      congr 1
      refine ih t B (by simp at hn; omega) ?_
      by_cases h0 : t = []
      · exact .inl h0
      · right
        have h1 := List.length_pos_iff.2 h0
        have e : (a ++ 10 :: t).length - 1 = a.length + 1 + (t.length - 1) := by simp; omega
        rw [e, bu_right] at hA
        exact hA
theorem chunks_line (p : List UInt8) (h : NoNl p) : chunks (p ++ [10]) = [p ++ [10]] := by rw [chunks_cut p [] h]; simp [chunks]
theorem stepD_line (q : BS × List UInt8) (p : List UInt8) : stepD q (p ++ [10]) = ((answerD q.1 p).1, q.2 ++ (answerD q.1 p).2 ++ [10]) := by unfold stepD; rw [trim_10]
theorem answerD_cut (s : BS) (l : List UInt8) : answerD s l = ansW s (cutB 32 l) := by unfold answerD; rw [splitL_cut l.length l (Nat.le_refl _)]
/-- A book's own log opens as it. -/
theorem open_own {s : BS} (h : Inv s) : (openR s.txt).1 = s ∧ (openR s.txt).2.2 = 0 ∧ s.txt.length ≤ 2000 := by
  obtain ⟨⟨es, he⟩, _⟩ := h
  obtain ⟨h1, h2, h3, h4⟩ := he.txt
  have hl : s.txt.length ≤ 2000 := by rw [h1]; have := txtE_len h4; have := h3.2.1; omega
  have hR : openR s.txt = openD (cutB 10 s.txt).dropLast eBS 0 := if_neg (by omega)
  obtain ⟨rest, hch, hrest⟩ := chunks_lines s.txt.length s.txt (Nat.le_refl _)
  have hch2 := chunks_txt h4 [] (by simp)
  rw [List.append_nil, if_pos rfl, List.append_nil, ← h1] at hch2
  rw [hch2] at hch
  have hg := runC_good he es.length (Nat.le_refl _)
  rw [List.take_length, (Logs.at_ he).1] at hg
  have hr0 : rest = [] := by
    rcases hrest with h | ⟨r, h, hs⟩
    · exact h
    · exfalso
      rw [h] at hch
      have hm : r ∈ es.map fun e => evT e ++ [10] := by rw [hch]; simp
      obtain ⟨e, _, rfl⟩ := List.mem_map.1 hm
      rw [has_10] at hs; cases hs
  rw [hr0, List.append_nil] at hch
  have hmap : ((cutB 10 s.txt).dropLast.map fun x => x ++ [10]).foldl stepC (some eBS) = some s := by rw [← hch]; exact hg
  have ho := openD_app [] _ eBS s 0 hmap
  rw [List.append_nil] at ho
  rw [hR, ho.1]
  exact ⟨rfl, rfl, hl⟩
theorem crash_own {s : BS} (h : Inv s) {n : Nat} (hn : 2000 ≤ n) : (crashA s n).1 = s ∧ ∃ k, (crashA s n).2 = [102, 111, 117, 110, 100, 32] ++ Lib.decDigits k := by
  obtain ⟨h1, h2, h3⟩ := open_own h
  have e : s.txt.take n = s.txt := List.take_of_length_le (by omega)
  unfold crashA
  rw [e, if_pos h2]
  exact ⟨h1, _, rfl⟩
/-- What a text's last line is. -/
def lastL (l : List UInt8) : List UInt8 := (chunks l).getLast?.getD []
theorem lastL_app {A p : List UInt8} (hA : A = [] ∨ bu A (A.length - 1) = 10) (hp : NoNl p) : lastL (A ++ (p ++ [10])) = p ++ [10] := by
  unfold lastL
  rw [chunks_app A.length A _ (Nat.le_refl _) hA, chunks_line p hp]
  simp
theorem out_end (xs : List (List UInt8)) : (sesD xs).2 = [] ∨ bu (sesD xs).2 ((sesD xs).2.length - 1) = 10 := by
  rcases (sesD_inv xs).2.1 with h | ⟨p, h⟩
  · exact .inl h
  · right
    rw [h, show (p ++ [(10 : UInt8)]).length - 1 = p.length by simp]
    exact bu_at p 10 []
end Go.Proofs.YteoofkinmilckaaGreatDoor
