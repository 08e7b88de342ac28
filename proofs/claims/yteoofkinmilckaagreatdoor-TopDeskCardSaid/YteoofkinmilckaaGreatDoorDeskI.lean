/- Plain laws of the laws DeskKeeps and TopDesk: what is answered behind a session that can go on. No condition. -/
import Derived.Test.YteoofkinmilckaaGreatDoorDeskG
namespace Go.Proofs.YteoofkinmilckaaGreatDoor
open Go.RowKit Go.Shelf IntWalk

/-- A text whose last line is L. -/
def Last (O L : List UInt8) : Prop := ∃ p, L = p ++ [10] ∧ NoNl p ∧ (O = [] ∨ bu O (O.length - 1) = 10)
/-- Behind some lines. -/
def stA (s : BS) (ls : List (List UInt8)) : BS := ls.foldl (fun s l => (answerD s l).1) s
theorem chunks_lines2 (r : List UInt8) : ∀ ls : List (List UInt8), (∀ l ∈ ls, NoNl l) → chunks (ls.flatMap (fun l => l ++ [10]) ++ r) = (ls.map fun l => l ++ [10]) ++ chunks r
  | [], _ => rfl
  | l :: ls, h => by
    rw [List.flatMap_cons, List.append_assoc, List.append_assoc, List.singleton_append, chunks_cut l _ (h l (by simp)), chunks_lines2 r ls (fun x hx => h x (by simp [hx])), List.map_cons, List.cons_append]
theorem fold_state : ∀ (ls : List (List UInt8)) (q : BS × List UInt8), ((ls.map fun l => l ++ [10]).foldl stepD q).1 = stA q.1 ls
  | [], _ => rfl
  | l :: ls, q => by
    rw [List.map_cons, List.foldl_cons, fold_state ls, stepD_line]
    rfl
theorem run_lines {T p : List UInt8} {ls : List (List UInt8)} (hT : T = [] ∨ bu T (T.length - 1) = 10) (hls : ∀ l ∈ ls, NoNl l) (hp : NoNl p) (hl : (T ++ (ls.flatMap (fun l => l ++ [10]) ++ (p ++ [10]))).length ≤ 3000) :
    ∃ O, runD (T ++ (ls.flatMap (fun l => l ++ [10]) ++ (p ++ [10]))) = O ++ ((answerD (stA (sesD (chunks T)).1 ls) p).2 ++ [10]) ∧ Last O ((answerD (stA (sesD (chunks T)).1 ls) p).2 ++ [10]) := by
  have hc : chunks (T ++ (ls.flatMap (fun l => l ++ [10]) ++ (p ++ [10]))) = (chunks T ++ (ls.map fun l => l ++ [10])) ++ [p ++ [10]] := by
    rw [chunks_app T.length T _ (Nat.le_refl _) hT, chunks_lines2 _ ls hls, chunks_line p hp, List.append_assoc]
  have hs : (sesD (chunks T ++ ls.map fun l => l ++ [10])).1 = stA (sesD (chunks T)).1 ls := by rw [sesD_app, fold_state]
  have hi := sesD_inv (chunks T ++ ls.map fun l => l ++ [10])
  refine ⟨(sesD (chunks T ++ ls.map fun l => l ++ [10])).2, ?_, _, rfl, ?_, out_end _⟩
  · unfold runD
    rw [if_neg (by omega), hc, sesD_snoc, stepD_line, hs, List.append_assoc]
  · rw [← hs]
    exact (ansW_inv hi.1 _).2
theorem ans_now (s : BS) : answerD s [110, 111, 119] = (s, s.now ++ [46]) := by
  rw [answerD_cut, show cutB 32 [110, 111, 119] = [[110, 111, 119]] by decide]
  rfl
theorem lo_32 {x : List UInt8} (h : x.all lo = true) : ∀ c ∈ x, c ≠ 32 := fun c hc e => by
  rw [List.all_eq_true] at h
  have := h c hc
  rw [e] at this
  exact absurd this (by decide)
theorem ans_put (s : BS) {x : List UInt8} (h : x.all lo = true) : answerD s (112 :: 117 :: 116 :: 32 :: 48 :: 32 :: x) = ((putS s 0 x).2, toldM (putS s 0 x).1) := by
  have e : cutB 32 (112 :: 117 :: 116 :: 32 :: 48 :: 32 :: x) = [[112, 117, 116], [48], x] := by
    have h1 := cutB_at (c := 32) (48 :: 32 :: x) (a := [112, 117, 116]) (by decide)
    have h2 := cutB_at (c := 32) x (a := [48]) (by decide)
    rw [cutB_no (lo_32 h)] at h2
    exact h1.trans (by rw [show (48 :: 32 :: x : List UInt8) = [48] ++ 32 :: x from rfl, h2])
  rw [answerD_cut, e, ansW_put, numD_0]
  rfl
theorem ans_find (s : BS) {x : List UInt8} (h : x.all lo = true) : answerD s (102 :: 105 :: 110 :: 100 :: 32 :: x) = (s, findA s.now x) := by
  have e : cutB 32 (102 :: 105 :: 110 :: 100 :: 32 :: x) = [[102, 105, 110, 100], x] := by
    have h1 := cutB_at (c := 32) x (a := [102, 105, 110, 100]) (by decide)
    rw [cutB_no (lo_32 h)] at h1
    exact h1
  rw [answerD_cut, e]
  rfl
theorem dec_7 : Lib.decDigits 9999999 = [57, 57, 57, 57, 57, 57, 57] := by
  rw [Lib.decDigits, dif_neg (by decide), Lib.decDigits, dif_neg (by decide), Lib.decDigits, dif_neg (by decide), Lib.decDigits, dif_neg (by decide), Lib.decDigits, dif_neg (by decide), Lib.decDigits, dif_neg (by decide), Lib.decDigits_one (by decide)]
  decide
theorem ans_crash {s : BS} (h : Inv s) : (answerD s [99, 114, 97, 115, 104, 32, 57, 57, 57, 57, 57, 57, 57]).1 = s := by
  have hn : numD [57, 57, 57, 57, 57, 57, 57] = some 9999999 := by
    unfold numD
    rw [if_pos (by decide)]
    have := numO_big 9999999 (by omega)
    rwa [dec_7] at this
  rw [answerD_cut, show cutB 32 [99, 114, 97, 115, 104, 32, 57, 57, 57, 57, 57, 57, 57] = [[99, 114, 97, 115, 104], [57, 57, 57, 57, 57, 57, 57]] by decide, ansW_crash, hn]
  exact (crash_own h (by omega)).1
theorem nl_now : NoNl [110, 111, 119] := by unfold NoNl; decide
theorem nl_crash : NoNl [99, 114, 97, 115, 104, 32, 57, 57, 57, 57, 57, 57, 57] := by unfold NoNl; decide
theorem nl_put {x : List UInt8} (h : x.all lo = true) : NoNl (112 :: 117 :: 116 :: 32 :: 48 :: 32 :: x) := NoNl.app (a := [112, 117, 116, 32, 48, 32]) (by unfold NoNl; decide) (lo_10 h)
theorem nl_find {x : List UInt8} (h : x.all lo = true) : NoNl (102 :: 105 :: 110 :: 100 :: 32 :: x) := NoNl.app (a := [102, 105, 110, 100, 32]) (by unfold NoNl; decide) (lo_10 h)
/-- What DeskKeeps looks at. -/
theorem keeps_pure {T x : List UInt8} (hT : T = [] ∨ bu T (T.length - 1) = 10) (hTl : T.length ≤ 2900) (hx : x.all lo = true) (h1 : 1 ≤ x.length) (h8 : x.length ≤ 8) :
    ∃ O1 L1 O2 L2 O3 L3 O4 L4, (runD (T ++ [110, 111, 119, 10]) = O1 ++ L1 ∧ Last O1 L1) ∧
      (runD (T ++ 112 :: 117 :: 116 :: 32 :: 48 :: 32 :: (x ++ [10])) = O2 ++ L2 ∧ Last O2 L2) ∧
      (runD (T ++ 112 :: 117 :: 116 :: 32 :: 48 :: 32 :: (x ++ [10, 110, 111, 119, 10])) = O3 ++ L3 ∧ Last O3 L3) ∧
      (runD (T ++ 112 :: 117 :: 116 :: 32 :: 48 :: 32 :: (x ++ [10, 99, 114, 97, 115, 104, 32, 57, 57, 57, 57, 57, 57, 57, 10, 110, 111, 119, 10])) = O4 ++ L4 ∧ Last O4 L4) ∧
      ((L2 = [111, 107, 10] ∧ L3 = L4 ∧ L3 = x ++ L1) ∨ (L2 = [69, 114, 114, 70, 117, 108, 108, 10] ∧ L3 = L1 ∧ L4 = L1)) := by
  have hi := (sesD_inv (chunks T)).1
  obtain ⟨O1, a1, a2⟩ := run_lines (ls := []) hT (by simp) nl_now (by simp; omega)
  obtain ⟨O2, b1, b2⟩ := run_lines (ls := []) hT (by simp) (nl_put hx) (by simp; omega)
  obtain ⟨O3, c1, c2⟩ := run_lines (ls := [112 :: 117 :: 116 :: 32 :: 48 :: 32 :: x]) hT (by intro l hl; rw [List.mem_singleton] at hl; rw [hl]; exact nl_put hx) nl_now (by simp; omega)
  obtain ⟨O4, d1, d2⟩ := run_lines (ls := [112 :: 117 :: 116 :: 32 :: 48 :: 32 :: x, [99, 114, 97, 115, 104, 32, 57, 57, 57, 57, 57, 57, 57]]) hT (by
    intro l hl
    rcases List.mem_cons.1 hl with hl | hl
    · rw [hl]; exact nl_put hx
    · rw [List.mem_singleton] at hl; rw [hl]; exact nl_crash) nl_now (by simp; omega)
  have f1 : (T ++ (([] : List (List UInt8)).flatMap (fun l => l ++ [10]) ++ ([110, 111, 119] ++ [10]))) = T ++ [110, 111, 119, 10] := by simp
  have f2 : (T ++ (([] : List (List UInt8)).flatMap (fun l => l ++ [10]) ++ ((112 :: 117 :: 116 :: 32 :: 48 :: 32 :: x) ++ [10]))) = T ++ 112 :: 117 :: 116 :: 32 :: 48 :: 32 :: (x ++ [10]) := by simp
  have f3 : (T ++ (([112 :: 117 :: 116 :: 32 :: 48 :: 32 :: x] : List (List UInt8)).flatMap (fun l => l ++ [10]) ++ ([110, 111, 119] ++ [10]))) = T ++ 112 :: 117 :: 116 :: 32 :: 48 :: 32 :: (x ++ [10, 110, 111, 119, 10]) := by simp
  have f4 : (T ++ (([112 :: 117 :: 116 :: 32 :: 48 :: 32 :: x, [99, 114, 97, 115, 104, 32, 57, 57, 57, 57, 57, 57, 57]] : List (List UInt8)).flatMap (fun l => l ++ [10]) ++ ([110, 111, 119] ++ [10]))) = T ++ 112 :: 117 :: 116 :: 32 :: 48 :: 32 :: (x ++ [10, 99, 114, 97, 115, 104, 32, 57, 57, 57, 57, 57, 57, 57, 10, 110, 111, 119, 10]) := by simp
  rw [f1] at a1
  rw [f2] at b1
  rw [f3] at c1
  rw [f4] at d1
  have s0 : stA (sesD (chunks T)).1 [] = (sesD (chunks T)).1 := rfl
  have s1 : stA (sesD (chunks T)).1 [112 :: 117 :: 116 :: 32 :: 48 :: 32 :: x] = (putS (sesD (chunks T)).1 0 x).2 := by show (answerD _ _).1 = _; rw [ans_put _ hx]
  have s2 : stA (sesD (chunks T)).1 [112 :: 117 :: 116 :: 32 :: 48 :: 32 :: x, [99, 114, 97, 115, 104, 32, 57, 57, 57, 57, 57, 57, 57]] = (putS (sesD (chunks T)).1 0 x).2 := by
    show (answerD (answerD _ _).1 _).1 = _
    rw [ans_put _ hx]
    exact ans_crash (hi.put 0 x)
  rw [s0] at a1 a2 b1 b2
  rw [s1] at c1 c2
  rw [s2] at d1 d2
  rw [ans_now] at a1 a2 c1 c2 d1 d2
  rw [ans_put _ hx] at b1 b2
  refine ⟨O1, _, O2, _, O3, _, O4, _, ⟨a1, a2⟩, ⟨b1, b2⟩, ⟨c1, c2⟩, ⟨d1, d2⟩, ?_⟩
  generalize (sesD (chunks T)).1 = s at *
  have hw : wordE x = 0 := by
    unfold wordE
    rw [if_neg (fun e => by subst e; simp at h1), if_neg (by omega), if_pos hx]
  have hE : putE s.now s.many 0 x = if 24 < s.now.length + x.length ∨ s.many = 60 then 4 else 0 := by
    unfold putE
    rw [if_neg (fun h => h ⟨Int.le_refl _, by omega⟩), if_neg (fun h => h hw)]
  have hp : (putS s 0 x).1 = putE s.now s.many 0 x := rfl
  by_cases hfull : 24 < s.now.length + x.length ∨ s.many = 60
  · right
    rw [if_pos hfull] at hE
    have h4 : (putS s 0 x).1 = 4 := hp.trans hE
    have hst : (putS s 0 x).2 = s := putS_err (by rw [h4]; decide)
    rw [h4, hst]
    exact ⟨by show toldM 4 ++ [10] = _; decide, rfl, rfl⟩
  · left
    rw [if_neg hfull] at hE
    have h0 : (putS s 0 x).1 = 0 := hp.trans hE
    have hn : (putS s 0 x).2.now = x ++ s.now := by
      unfold putS
      simp only [if_pos hE]
      show putN s.now 0 x = _
      simp [putN]
    rw [h0, hn]
    exact ⟨by show toldM 0 ++ [10] = _; decide, rfl, by simp⟩
/-- What TopDesk looks at. -/
theorem topdesk_pure {T x : List UInt8} (hT : T = [] ∨ bu T (T.length - 1) = 10) (hTl : T.length ≤ 2900) (hx : x.all lo = true) (h24 : x.length ≤ 24) :
    ∃ O1 L1 O2 L2 O3 L3 O4 L4, (runD (T ++ [110, 111, 119, 10]) = O1 ++ L1 ∧ Last O1 L1) ∧
      (runD (T ++ [99, 114, 97, 115, 104, 32, 57, 57, 57, 57, 57, 57, 57, 10, 110, 111, 119, 10]) = O2 ++ L2 ∧ Last O2 L2) ∧
      (runD (T ++ 102 :: 105 :: 110 :: 100 :: 32 :: (x ++ [10])) = O3 ++ L3 ∧ Last O3 L3) ∧
      (runD (T ++ 99 :: 114 :: 97 :: 115 :: 104 :: 32 :: 57 :: 57 :: 57 :: 57 :: 57 :: 57 :: 57 :: 10 :: 102 :: 105 :: 110 :: 100 :: 32 :: (x ++ [10])) = O4 ++ L4 ∧ Last O4 L4) ∧
      L1 = L2 ∧ L3 = L4 ∧ 1 < L1.length ∧ L1.length ≤ 26 ∧ (x = [] → L3 = [69, 114, 114, 78, 111, 110, 101, 10]) := by
  have hi := (sesD_inv (chunks T)).1
  have hsm := (sesD_small (chunks T)).1
  obtain ⟨O1, a1, a2⟩ := run_lines (ls := []) hT (by simp) nl_now (by simp; omega)
  obtain ⟨O2, b1, b2⟩ := run_lines (ls := [[99, 114, 97, 115, 104, 32, 57, 57, 57, 57, 57, 57, 57]]) hT (by intro l hl; rw [List.mem_singleton] at hl; rw [hl]; exact nl_crash) nl_now (by simp; omega)
  obtain ⟨O3, c1, c2⟩ := run_lines (ls := []) hT (by simp) (nl_find hx) (by simp; omega)
  obtain ⟨O4, d1, d2⟩ := run_lines (ls := [[99, 114, 97, 115, 104, 32, 57, 57, 57, 57, 57, 57, 57]]) hT (by intro l hl; rw [List.mem_singleton] at hl; rw [hl]; exact nl_crash) (nl_find hx) (by simp; omega)
  have f1 : (T ++ (([] : List (List UInt8)).flatMap (fun l => l ++ [10]) ++ ([110, 111, 119] ++ [10]))) = T ++ [110, 111, 119, 10] := by simp
  have f2 : (T ++ (([[99, 114, 97, 115, 104, 32, 57, 57, 57, 57, 57, 57, 57]] : List (List UInt8)).flatMap (fun l => l ++ [10]) ++ ([110, 111, 119] ++ [10]))) = T ++ [99, 114, 97, 115, 104, 32, 57, 57, 57, 57, 57, 57, 57, 10, 110, 111, 119, 10] := by simp
  have f3 : (T ++ (([] : List (List UInt8)).flatMap (fun l => l ++ [10]) ++ ((102 :: 105 :: 110 :: 100 :: 32 :: x) ++ [10]))) = T ++ 102 :: 105 :: 110 :: 100 :: 32 :: (x ++ [10]) := by simp
  have f4 : (T ++ (([[99, 114, 97, 115, 104, 32, 57, 57, 57, 57, 57, 57, 57]] : List (List UInt8)).flatMap (fun l => l ++ [10]) ++ ((102 :: 105 :: 110 :: 100 :: 32 :: x) ++ [10]))) = T ++ 99 :: 114 :: 97 :: 115 :: 104 :: 32 :: 57 :: 57 :: 57 :: 57 :: 57 :: 57 :: 57 :: 10 :: 102 :: 105 :: 110 :: 100 :: 32 :: (x ++ [10]) := by simp
  rw [f1] at a1
  rw [f2] at b1
  rw [f3] at c1
  rw [f4] at d1
  have s0 : stA (sesD (chunks T)).1 [] = (sesD (chunks T)).1 := rfl
  have s1 : stA (sesD (chunks T)).1 [[99, 114, 97, 115, 104, 32, 57, 57, 57, 57, 57, 57, 57]] = (sesD (chunks T)).1 := ans_crash hi
  rw [s0] at a1 a2 c1 c2
  rw [s1] at b1 b2 d1 d2
  rw [ans_now] at a1 a2 b1 b2
  rw [ans_find _ hx] at c1 c2 d1 d2
  refine ⟨O1, _, O2, _, O3, _, O4, _, ⟨a1, a2⟩, ⟨b1, b2⟩, ⟨c1, c2⟩, ⟨d1, d2⟩, rfl, rfl, by simp, by have := hsm.1; simp; omega, fun e => ?_⟩
  subst e
  have : findE (sesD (chunks T)).1.now [] = 5 := by
    unfold findE
    rw [if_neg (by have := hsm.1; simp; omega), if_pos rfl]
  show findA (sesD (chunks T)).1.now [] ++ [10] = _
  unfold findA
  rw [this, if_neg (by decide)]
  decide
end Go.Proofs.YteoofkinmilckaaGreatDoor
