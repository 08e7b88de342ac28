/- package desk's line at any text, and Run: its walk. Condition: as of line. -/
import Derived.Test.YteoofkinmilckaaGreatDoorDeskLa
import Derived.Test.YteoofkinmilckaaGreatDoorDeskLb
import Derived.Test.YteoofkinmilckaaGreatDoorDeskLc
import Derived.Test.YteoofkinmilckaaGreatDoorDeskLd
namespace Go.Proofs.YteoofkinmilckaaGreatDoor
open Go.RowKit Go.Shelf IntWalk
attribute [local go_sem] Oper.semAt_some
attribute [local go_sem] byte_at str_app

theorem ansW_put (s : BS) (x y : List UInt8) : ansW s [[112, 117, 116], x, y] = (match numD x with
  | none => (s, badM)
  | some n => ((putS s n y).2, toldM (putS s n y).1)) := rfl
theorem ansW_cut (s : BS) (x y : List UInt8) : ansW s [[99, 117, 116], x, y] = (match numD x with
  | none => (s, badM)
  | some n => (match numD y with
    | none => (s, badM)
    | some k => ((cutS s n k).2, toldM (cutS s n k).1))) := rfl
theorem ansW_crash (s : BS) (x : List UInt8) : ansW s [[99, 114, 97, 115, 104], x] = (match numD x with
  | none => (s, badM)
  | some n => crashA s n) := rfl
theorem two_of {r : List (List UInt8)} (h : r.length = 2) : ∃ x y, r = [x, y] := by
  match r, h with
  | [x, y], _ => exact ⟨x, y, rfl⟩
theorem one_of {r : List (List UInt8)} (h : r.length = 1) : ∃ x, r = [x] := by
  match r, h with
  | [x], _ => exact ⟨x, rfl⟩
theorem ansW_put_len (s : BS) : ∀ r : List (List UInt8), r.length ≠ 2 → ansW s ([112, 117, 116] :: r) = (s, badM)
  | [], _ => rfl
  | [_], _ => rfl
  | _ :: _ :: _ :: _, _ => rfl
  | [_, _], h => absurd rfl h
theorem ansW_cut_len (s : BS) : ∀ r : List (List UInt8), r.length ≠ 2 → ansW s ([99, 117, 116] :: r) = (s, badM)
  | [], _ => rfl
  | [_], _ => rfl
  | _ :: _ :: _ :: _, _ => rfl
  | [_, _], h => absurd rfl h
theorem ansW_now_len (s : BS) : ∀ r : List (List UInt8), r.length ≠ 0 → ansW s ([110, 111, 119] :: r) = (s, badM)
  | _ :: _, _ => rfl
  | [], h => absurd rfl h
theorem ansW_find_len (s : BS) : ∀ r : List (List UInt8), r.length ≠ 1 → ansW s ([102, 105, 110, 100] :: r) = (s, badM)
  | [], _ => rfl
  | _ :: _ :: _, _ => rfl
  | [_], h => absurd rfl h
theorem ansW_crash_len (s : BS) : ∀ r : List (List UInt8), r.length ≠ 1 → ansW s ([99, 114, 97, 115, 104] :: r) = (s, badM)
  | [], _ => rfl
  | _ :: _ :: _, _ => rfl
  | [_], h => absurd rfl h
theorem lineD_all (F : Nat → Option Obj) (B db bk : Nat) (s : BS) (l : List UInt8) (w : World) (h : Ctx F B db bk s w) (hl : l.length ≤ 3000) :
    Calls Tryz.prog 32 #[.pointer (some ⟨db, 0, none⟩), S l] w fun e w' => Res F B db w (answerD s l) e w' := by
  have hx : ∀ x ∈ splitL l, x.length ≤ 3000 := fun x hx => Nat.le_trans (splitL_len hx) hl
  obtain ⟨a, r, hws⟩ : ∃ a r, splitL l = a :: r := by
    have := splitL_count l
    match hq : splitL l with
    | [] => rw [hq] at this; simp at this
    | a :: r => exact ⟨a, r, rfl⟩
  unfold answerD
  rw [hws]
  by_cases a0 : a = [112, 117, 116]
  · subst a0
    by_cases hr : r.length = 2
    · obtain ⟨x, y, rfl⟩ := two_of hr
      rw [ansW_put]
      cases hn : numD x with
      | none => exact dline_put_bad F B db bk s l x y w h hl hws hx hn
      | some n => exact dline_put F B db bk s n l x y w h hl hws hx hn
    · rw [ansW_put_len s r hr]
      exact line_put_len F B db bk s l r w h hl hws hr
  by_cases a1 : a = [99, 117, 116]
  · subst a1
    by_cases hr : r.length = 2
    · obtain ⟨x, y, rfl⟩ := two_of hr
      rw [ansW_cut]
      cases hn : numD x with
      | none => exact dline_cut_bad F B db bk s l x y w h hl hws hx hn
      | some n =>
        cases hm : numD y with
        | none => exact dline_cut_bad2 F B db bk s n l x y w h hl hws hx hn hm
        | some k => exact dline_cut F B db bk s n k l x y w h hl hws hx hn hm
    · rw [ansW_cut_len s r hr]
      exact line_cut_len F B db bk s l r w h hl hws hr
  by_cases a2 : a = [110, 111, 119]
  · subst a2
    by_cases hr : r.length = 0
    · obtain rfl := List.length_eq_zero_iff.1 hr
      exact dline_now F B db bk s l w h hl hws
    · rw [ansW_now_len s r hr]
      exact line_now_len F B db bk s l r w h hl hws hr
  by_cases a3 : a = [102, 105, 110, 100]
  · subst a3
    by_cases hr : r.length = 1
    · obtain ⟨x, rfl⟩ := one_of hr
      exact dline_find F B db bk s l x w h hl hws hx
    · rw [ansW_find_len s r hr]
      exact line_find_len F B db bk s l r w h hl hws hr
  by_cases a4 : a = [99, 114, 97, 115, 104]
  · subst a4
    by_cases hr : r.length = 1
    · obtain ⟨x, rfl⟩ := one_of hr
      rw [ansW_crash]
      cases hn : numD x with
      | none => exact dline_crash_bad F B db bk s l x w h hl hws hx hn
      | some n => exact dline_crash F B db bk s n l x w h hl hws hx hn
    · rw [ansW_crash_len s r hr]
      exact line_crash_len F B db bk s l r w h hl hws hr
  have hv : lookV a = none := by unfold lookV; rw [if_neg a0, if_neg a1, if_neg a2, if_neg a3, if_neg a4]
  rw [lookV_none hv]
  exact line_none F B db bk s l a r w h hl hws hv
theorem trimsuf_any (x : List UInt8) (w : World) (hx : x.length ≤ 100000) :
    Calls Tryz.prog 33 #[S x, .string ⟨#[10]⟩] w fun e w' => e = .returned (S (Lib.trimSuffix x [10])) ∧ w' = w := by
  have HT := Lib.hid (Tryz.stringslite_TrimSuffix ⟨x.toArray⟩ ⟨#[10]⟩ w (by simp [ByteArray.size]; omega))
  go_enter Tryz.func33, Tryz.ntmps33
  go_wp2_with fail
  refine HT.out.mono ?_
  rintro e w' ⟨rfl, rfl⟩
  go_wp2_with fail
  go_ret
  exact ⟨rfl, rfl⟩
/-- A session so far: the book, what has been answered; one line more. -/
def stepD (p : BS × List UInt8) (x : List UInt8) : BS × List UInt8 := ((answerD p.1 (Lib.trimSuffix x [10])).1, p.2 ++ (answerD p.1 (Lib.trimSuffix x [10])).2 ++ [10])
def sesD (xs : List (List UInt8)) : BS × List UInt8 := xs.foldl stepD (eBS, [])
theorem sesD_snoc (xs : List (List UInt8)) (x : List UInt8) : sesD (xs ++ [x]) = stepD (sesD xs) x := by unfold sesD; rw [List.foldl_append]; rfl
def tooLong : List UInt8 := [116, 111, 111, 32, 108, 111, 110, 103, 10]
def runD (T : List UInt8) : List UInt8 := if 3000 < T.length then tooLong else (sesD (chunks T)).2
theorem crashA_small {s : BS} (h : Smalls s) (n : Nat) : Smalls (crashA s n).1 := by
  unfold crashA
  split
  · show Smalls (openR (s.txt.take n)).1
    unfold openR
    split
    · exact ⟨by simp, by simp, by simp⟩
    · exact openD_small _ _ _ ⟨by simp, by simp, by simp⟩
  · exact h
theorem dd_len20 {n : Nat} (h : n ≤ 1000000) : (Lib.decDigits n).length ≤ 21 := by rw [← Lib.itoa_nonneg]; exact itoa_len n h
theorem errName_len (k : Int) : (errName k).length ≤ 9 := by
  unfold errName
  repeat' split
  all_goals decide
theorem toldM_len (k : Int) : (toldM k).length ≤ 9 := by
  unfold toldM
  split
  · decide
  · exact errName_len k
theorem findA_len {now x : List UInt8} (h : now.length ≤ 24) : (findA now x).length ≤ 40 := by
  unfold findA
  split
  · have := occ_len x now
    have := dd_len20 (n := (occ x now).length) (by omega)
    omega
  · have := toldM_len (findE now x); omega
theorem crashA_len (s : BS) (n : Nat) : (crashA s n).2.length ≤ 40 := by
  unfold crashA
  split
  · show ([102, 111, 117, 110, 100, 32] ++ Lib.decDigits (openR (s.txt.take n)).2.1).length ≤ 40
    have h1 := openR_many (s.txt.take n)
    have h2 := dd_len20 (n := (openR (s.txt.take n)).2.1) (by omega)
    rw [List.length_append]
    simp only [List.length_cons, List.length_nil]; omega
  · have := toldM_len (openR (s.txt.take n)).2.2
    show (toldM (openR (s.txt.take n)).2.2).length ≤ 40; omega
theorem bad_len : badM.length ≤ 40 := by decide
theorem ansW_small {s : BS} (h : Smalls s) (ws : List (List UInt8)) : Smalls (ansW s ws).1 ∧ (ansW s ws).2.length ≤ 40 := by
  have hn : s.now.length ≤ 24 := h.1
  have hb : Smalls s ∧ badM.length ≤ 40 := ⟨h, bad_len⟩
  cases ws with
  | nil => exact hb
  | cons a r =>
    by_cases a0 : a = [112, 117, 116]
    · subst a0
      by_cases hr : r.length = 2
      · obtain ⟨x, y, rfl⟩ := two_of hr
        rw [ansW_put]
        cases numD x with
        | none => exact hb
        | some n => exact ⟨putS_small h _ _, Nat.le_trans (toldM_len _) (by omega)⟩
      · rw [ansW_put_len s r hr]; exact hb
    by_cases a1 : a = [99, 117, 116]
    · subst a1
      by_cases hr : r.length = 2
      · obtain ⟨x, y, rfl⟩ := two_of hr
        rw [ansW_cut]
        cases numD x with
        | none => exact hb
        | some n =>
          cases numD y with
          | none => exact hb
          | some k => exact ⟨cutS_small h _ _, Nat.le_trans (toldM_len _) (by omega)⟩
      · rw [ansW_cut_len s r hr]; exact hb
    by_cases a2 : a = [110, 111, 119]
    · subst a2
      by_cases hr : r.length = 0
      · obtain rfl := List.length_eq_zero_iff.1 hr
        exact ⟨h, by show (s.now ++ [46]).length ≤ 40; simp; omega⟩
      · rw [ansW_now_len s r hr]; exact hb
    by_cases a3 : a = [102, 105, 110, 100]
    · subst a3
      by_cases hr : r.length = 1
      · obtain ⟨x, rfl⟩ := one_of hr
        exact ⟨h, findA_len hn⟩
      · rw [ansW_find_len s r hr]; exact hb
    by_cases a4 : a = [99, 114, 97, 115, 104]
    · subst a4
      by_cases hr : r.length = 1
      · obtain ⟨x, rfl⟩ := one_of hr
        rw [ansW_crash]
        cases numD x with
        | none => exact hb
        | some n => exact ⟨crashA_small h _, crashA_len _ _⟩
      · rw [ansW_crash_len s r hr]; exact hb
    rw [lookV_none (by unfold lookV; rw [if_neg a0, if_neg a1, if_neg a2, if_neg a3, if_neg a4])]
    exact hb
theorem sesD_small (xs : List (List UInt8)) : Smalls (sesD xs).1 ∧ (sesD xs).2.length ≤ xs.length * 41 := by
  suffices h : ∀ (xs : List (List UInt8)) (p : BS × List UInt8), Smalls p.1 → Smalls (xs.foldl stepD p).1 ∧ (xs.foldl stepD p).2.length ≤ p.2.length + xs.length * 41 by
    have := h xs (eBS, []) ⟨by simp, by simp, by simp⟩
    unfold sesD
    simpa using this
  intro xs
  induction xs with
  | nil => intro p hp; exact ⟨hp, by simp⟩
  | cons x xs ih =>
    intro p hp
    have h1 := ansW_small hp (splitL (Lib.trimSuffix x [10]))
    obtain ⟨h2, h3⟩ := ih (stepD p x) h1.1
    refine ⟨h2, Nat.le_trans h3 ?_⟩
    have h4 : (answerD p.1 (Lib.trimSuffix x [10])).2.length ≤ 40 := h1.2
    show (p.2 ++ (answerD p.1 (Lib.trimSuffix x [10])).2 ++ [10]).length + _ ≤ _
    simp only [List.length_append, List.length_cons, List.length_nil]
    omega
theorem chunks_count : ∀ T : List UInt8, (chunks T).length ≤ T.length := by
  intro T
  induction T with
  | nil => simp [chunks]
  | cons c l ih =>
    unfold chunks
    split
    · simp; omega
    · split
      · simp
      · rename_i hq; rw [hq] at ih; simp at ih ⊢; omega
end Go.Proofs.YteoofkinmilckaaGreatDoor
