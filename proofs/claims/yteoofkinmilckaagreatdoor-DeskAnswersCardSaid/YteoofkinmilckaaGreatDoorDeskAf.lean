/- The document's Session; the law DeskAnswers. Condition: as of desk.Run. -/
import Derived.Test.YteoofkinmilckaaGreatDoorDeskAe
namespace Go.Proofs.YteoofkinmilckaaGreatDoor
open Go.RowKit Go.Shelf IntWalk
attribute [local go_sem] byte_at str_app
attribute [local go_sem ↓] Go.wp_at_zero Go.wp_at_succ

theorem trim_no {p : List UInt8} (h : NoNl p) : Lib.trimSuffix p [10] = p := by
  unfold Lib.trimSuffix
  rw [if_neg]
  intro hs
  exact h 10 (suf_10 hs) rfl
/-- What is in memory while the session runs: the book; behind an answer, the new book, too. -/
def SQ (w : World) (g : Nat) (s s' : BS) (W : World) : Prop := w.heap.size < g ∧ W.heap[w.heap.size]? = some (bObj s) ∧ Below w.heap.size w W ∧ W.heap[g]? = some (bObj s')
theorem SQ.one {w w3 w6 : World} {s s' : BS} (h1 : w3.heap[w.heap.size]? = some (bObj s)) (hb : Below w.heap.size w w3) (h6 : Below w3.heap.size w3 w6) : SQ w w6.heap.size s s' (w6.alloc (bObj s')) := by
  have hl := (Array.getElem?_eq_some_iff.1 h1).1
  have hz := h6.size
  refine ⟨by omega, ?_, (hb.trans (h6.mono hb.size)).alloc (Nat.le_trans hb.size hz) _, heap_alloc_new _ _⟩
  rw [Lib.alloc_old _ _ _ (by omega), h6.block _ hl, h1]
theorem SQ.two {w w3 w6 : World} {s s' : BS} (h1 : w3.heap[w.heap.size]? = some (bObj s)) (hb : Below w.heap.size w w3) (h6 : Below (w3.alloc (bObj eBS)).heap.size (w3.alloc (bObj eBS)) w6) :
    SQ w w3.heap.size s s' (((w6.setCell ⟨w3.heap.size, 0, none⟩ (S s'.now)).setCell ⟨w3.heap.size, 1, none⟩ (S s'.txt)).setCell ⟨w3.heap.size, 2, none⟩ (.int .i64 (s'.many : Int))) := by
  have hl := (Array.getElem?_eq_some_iff.1 h1).1
  have h8 : w6.heap[w3.heap.size]? = some (bObj eBS) := (h6.block w3.heap.size (by simp)).trans (heap_alloc_new w3 _)
  have hb6 : Below w.heap.size w w6 := (hb.alloc hb.size (bObj eBS)).trans (h6.mono (by simp; have := hb.size; omega))
  refine ⟨hl, set_three (by omega) ?_ _ _ _, below_tri hb6 hb.size, set3 h8⟩
  rw [h6.block _ (by simp; omega), Lib.alloc_old _ _ _ hl, h1]
theorem cut_at (l : List UInt8) : ∃ m, m ≤ l.length ∧ (∀ c ∈ l.take m, c ≠ 10) ∧ (m = l.length ∨ bu l m = 10) := by
  induction l with
  | nil => exact ⟨0, Nat.le_refl _, by simp, .inl rfl⟩
  | cons c l ih =>
    by_cases h : c = 10
    · subst h; exact ⟨0, by simp, by simp, .inr rfl⟩
    · obtain ⟨m, h1, h2, h3⟩ := ih
      refine ⟨m + 1, by simp; omega, ?_, ?_⟩
      · intro x hx
        rw [List.take_succ_cons, List.mem_cons] at hx
        rcases hx with rfl | hx
        · exact h
        · exact h2 x hx
      · rcases h3 with h3 | h3
        · exact .inl (by simp [h3])
        · exact .inr h3

set_option maxRecDepth 100000 in
set_option maxHeartbeats 100000000 in
theorem session_any (T : List UInt8) (w : World) (h9 : T.length ≤ 9223372036854775807) :
    Calls Tryz.prog 18 #[S T] w fun e w' => e = .returned (S (runD T)) ∧ Below w.heap.size w w' := by
  by_cases hl : 3000 < T.length
  · have hR : runD T = tooLong := if_pos hl
    have HR := Lib.hid hR
    have p1 : (3000 : Int) < (T.length : Int) := by omega
    clear hR
    generalize runD T = R at *
    go_enter Tryz.func18, Tryz.ntmps18
    go_wp2_with fail
    go_ret
    exact ⟨by rw [HR.out]; rfl, Below.refl _ _⟩
  have p1 : ¬ (3000 : Int) < (T.length : Int) := by omega
  have HR : Hid (runD T = ((chunks (T.drop 0)).foldl stepD (eBS, [])).2) := Lib.hid (by rw [List.drop_zero]; exact if_neg hl)
  have hl3 : T.length ≤ 3000 := by omega
  generalize runD T = R at *
  have HB0 := Lib.hid ((Below.refl w.heap.size w).alloc (Nat.le_refl _) (bObj eBS))
  have HX0 := Lib.hid (heap_alloc_new w (bObj eBS))
  clear hl
  go_enter Tryz.func18, Tryz.ntmps18
  go_wp2_with fail
  go_loopg [4, 5] T.length (fun f ov fv wr => ∃ (a : Nat) (s : BS) (out : List UInt8), T.length ≤ a + f ∧ fv = .int .i64 (a : Int) ∧ ov = S out ∧ a ≤ T.length + 1 ∧ out.length ≤ 41 * a ∧ Smalls s ∧ Hid (R = ((chunks (T.drop a)).foldl stepD (s, out)).2) ∧ wr.heap[w.heap.size]? = some (bObj s) ∧ Hid (Below w.heap.size w wr))
  case atStart => exact ⟨0, eBS, [], by omega, rfl, rfl, by omega, by simp, ⟨by simp, by simp, by simp⟩, HR, HX0.out, HB0⟩
  case round =>
    obtain ⟨a, s, out, hf, rfl, rfl, ha, hol, hsm, HRS, hx, HB⟩ := hrel
    clear HB0 HX0 HR
    by_cases hlt : a < T.length
    rotate_left
    · have hR : Hid (R = out) := Lib.hid (by rw [HRS.out, List.drop_of_length_le (by omega)]; rfl)
      have q1 : ¬ (a : Int) < (T.length : Int) := by omega
      clear HRS hx
      go_wp2_with fail
      go_ret
      exact ⟨by rw [hR.out]; rfl, HB.out⟩
    obtain ⟨m, hm, hno, hend⟩ := cut_at (T.drop a)
    rw [List.length_drop] at hm hend
    have q1 : (a : Int) < (T.length : Int) := by omega
    have HP : Hid ((chunks (T.drop a)).foldl stepD (s, out) = (chunks (T.drop (a + m + 1))).foldl stepD ((answerD s ((T.drop a).take m)).1, out ++ (answerD s ((T.drop a).take m)).2 ++ [10])) := Lib.hid (by
      rcases hend with h | h
      · have e1 : (T.drop a).take m = T.drop a := List.take_of_length_le (by rw [List.length_drop]; omega)
        rw [e1] at hno ⊢
        rw [chunks_one _ hno (by intro e; have := congrArg List.length e; simp at this; omega), List.drop_of_length_le (i := a + m + 1) (by omega)]
        show stepD (s, out) (T.drop a) = _
        unfold stepD
        rw [trim_no hno]
        rfl
      · have hm2 : m < T.length - a := by
          rcases Nat.lt_or_ge m (T.length - a) with h' | h'
          · exact h'
          · rw [bu_out (by rw [List.length_drop]; exact h')] at h; exact absurd h (by decide)
        have e1 := drop_part (l := T.drop a) (a := 0) (i := m) (by rw [List.length_drop]; exact hm2) (by omega) h
        rw [List.drop_zero, Nat.sub_zero, List.drop_drop] at e1
        conv => lhs; rw [e1]
        rw [chunks_cut _ _ hno, List.foldl_cons, stepD_line, show a + (m + 1) = a + m + 1 by omega])
    have hNL : Hid (∀ j, a ≤ j → j < a + m → bu T j ≠ 10) := Lib.hid fun j h1 h2 => by
      have := hno (bu T j) (by
        have e : bu T j = ((T.drop a).take m)[j - a]'(by rw [List.length_take, List.length_drop]; omega) := by
          rw [List.getElem_take, List.getElem_drop, bu_eq (by omega)]
          congr 1; omega
        rw [e]; exact List.getElem_mem _)
      exact this
    have hEN : Hid (a + m = T.length ∨ bu T (a + m) = 10) := Lib.hid (by
      rcases hend with h | h
      · exact .inl (by omega)
      · exact .inr (by rw [bu_drop] at h; exact h))
    have hpl : ((T.drop a).take m).length ≤ 3000 := by rw [List.length_take, List.length_drop]; omega
    have HAN := Lib.hid (fun W => answerR_any s ((T.drop a).take m) W hsm hpl)
    have HSA := Lib.hid (ansW_small hsm (splitL ((T.drop a).take m)))
    have hHSA : Smalls (answerD s ((T.drop a).take m)).1 ∧ (answerD s ((T.drop a).take m)).2.length ≤ 40 := HSA.out
    have hmid := str_midB T a (a + m)
    rw [show a + m - a = m by omega] at hmid
    rw [HP.out] at HRS
    clear HSA HP hno hend hpl
    generalize (T.drop a).take m = p at *
    generalize answerD s p = q at *
    obtain ⟨s', an⟩ := q
    obtain ⟨hsm', han⟩ := hHSA
    have han : an.length ≤ 40 := han
    have HX := Lib.hid hx
    obtain ⟨b0, b1, b2, z0, z1, z2⟩ := three_at hx
    have hw0 := (Array.getElem?_eq_some_iff.1 hx).1
    clear hx
    go_wp2_with fail
    go_loopg [6] m (fun f iv wr' => ∃ j, j + f = a + m ∧ a ≤ j ∧ iv = .int .i64 (j : Int) ∧ wr' = wr)
    case atStart => exact ⟨a, rfl, Nat.le_refl _, rfl, rfl⟩
    case round =>
      obtain ⟨j, hj, haj, rfl, rfl⟩ := hrel
      by_cases hjm : j < a + m
      · obtain ⟨f', rfl⟩ : ∃ f', gk = f' + 1 := ⟨gk - 1, by omega⟩
        have hne := hNL.out j haj hjm
        have r1 : (j : Int) < (T.length : Int) := by omega
        have r2 : (0 : Int) ≤ (j : Int) := by omega
        have r3 : j < T.length := by omega
        have r4 : ¬ ((bu T j).toNat : Int) = 10 := fun e => hne (UInt8.toNat_inj.1 (by show (bu T j).toNat = 10; omega))
        have r5 : (((bu T j).toNat : Int) != 10) = true := by simpa using r4
        have r6 : ¬ (bu T j).toNat = 10 := by omega
        have r7 : IntKind.i64.wrap ((j : Int) + 1) = (j : Int) + 1 := i64_in _ (by omega)
        clear hne
        go_wp2_with fail
        go_roundg f'
        case measure => omega
        case rel => exact ⟨j + 1, by omega, by omega, by simp, rfl⟩
      · obtain rfl : j = a + m := by omega
        have g1 : (a : Int) ≤ ((a + m : Nat) : Int) := by omega
        have g2 : ((a + m : Nat) : Int) ≤ (T.length : Int) := by omega
        have g3 : (0 : Int) ≤ (a : Int) := by omega
        have g4 : IntKind.i64.wrap (((a + m : Nat) : Int) + 1) = ((a + m + 1 : Nat) : Int) := by rw [i64_in _ (by omega)]; omega
        have g5 : IntKind.i64.wrap ((a : Int) + (m : Int) + 1) = ((a + m + 1 : Nat) : Int) := by rw [i64_in _ (by omega)]; omega
        have g6 : ¬ 9223372036854775807 < out.length + an.length := by omega
        have g7 : ¬ 9223372036854775807 < (out ++ an).length + 1 := by rw [List.length_append]; omega
        have g8 : ¬ 9223372036854775807 < out.length + an.length + 1 := by omega
        have e1 : ((a + m : Nat) : Int).toNat = a + m := by omega
        have e2 : ((a : Int) + (m : Int)).toNat = a + m := by omega
        have e3 : (0 : Int) ≤ ((a + m : Nat) : Int) := by omega
        have hcase : ∀ (P : Prop), (a + m = T.length → P) → (a + m < T.length ∧ bu T (a + m) = 10 → P) → P := fun P h1 h2 => by
          rcases hEN.out with h | h
          · exact h1 h
          · rcases Nat.lt_or_ge (a + m) T.length with h' | h'
            · exact h2 ⟨h', h⟩
            · exact h1 (by omega)
        have HCS := Lib.hid hcase
        clear hcase
        have HWX := Lib.hid (fun w6 (h6 : Below wr.heap.size wr w6) => SQ.one (s' := s') HX.out HB.out h6)
        have HWY := Lib.hid (fun w6 (h6 : Below (wr.alloc (bObj eBS)).heap.size (wr.alloc (bObj eBS)) w6) => SQ.two (s' := s') HX.out HB.out h6)
        refine HCS.out _ (fun hc => ?_) (fun hc => ?_)
        all_goals
          first
            | (have c1 : ¬ ((a + m : Nat) : Int) < (T.length : Int) := by omega
               have c2 : ¬ (a : Int) + (m : Int) < (T.length : Int) := by omega
               clear hc)
            | (obtain ⟨hc1, hc2⟩ := hc
               have c1 : ((a + m : Nat) : Int) < (T.length : Int) := by omega
               have c2 : (a : Int) + (m : Int) < (T.length : Int) := by omega
               have c3 : ((bu T (a + m)).toNat : Int) = 10 := by rw [hc2]; rfl
               have c4 : (bu T (a + m)).toNat = 10 := by rw [hc2]; rfl
               have c5 : (((bu T (a + m)).toNat : Int) != 10) = false := by rw [c3]; rfl
               clear hc2)
          go_upto_region 10 with fail
          go_cut [7, 8] from 13 to 45 (fun pv ev wx => ∃ g, pv = .pointer (some ⟨g, 0, none⟩) ∧ ev = S an ∧ Hid (SQ w g s s' wx))
          case first =>
            go_region_with (refine (HAN.out _).mono ?_; rintro e w6 ⟨rfl, hb6⟩; try (have hg8 : w6.heap[wr.heap.size]? = some (bObj eBS) := (Below.block hb6 wr.heap.size (by simp)).trans (heap_alloc_new wr _); obtain ⟨t0, t1, t2, t3, t4, t5⟩ := three_at hg8))
            all_goals
              first
                | (have hO6 := Lib.hid (HWX.out w6 ((Below.drew (Below.refl _ wr)).trans hb6))
                   clear hb6
                   go_wp2_with fail
                   go_meet
                   exact ⟨_, rfl, rfl, hO6⟩)
                | (have hO6 := Lib.hid (HWY.out w6 ((Below.drew (Below.refl _ _)).trans hb6))
                   clear hb6
                   go_wp2_with fail
                   go_meet
                   exact ⟨_, rfl, rfl, hO6⟩)
          case rest =>
            obtain ⟨g, rfl, rfl, HO8⟩ := hcut
            clear b0 b1 b2 z0 z1 z2 HAN HX HB hw0 hmid HWX HWY HCS hNL hEN
            obtain ⟨hgt, hrs, hB, hbk⟩ := HO8.out
            obtain ⟨r0, r1, r2, z0, z1, z2⟩ := three_at hrs
            obtain ⟨b0, b1, b2, _, _, _⟩ := three_at hbk
            have HB9 := Lib.hid (below_tri (x := S s'.now) (y := S s'.txt) (z := .int .i64 (s'.many : Int)) hB (Nat.le_refl _))
            have HX9 : Hid ((((wc.setCell ⟨w.heap.size, 0, none⟩ (S s'.now)).setCell ⟨w.heap.size, 1, none⟩ (S s'.txt)).setCell ⟨w.heap.size, 2, none⟩ (.int .i64 (s'.many : Int))).heap[w.heap.size]? = some (bObj s')) := Lib.hid (set3 hrs)
            clear hrs hB hbk HO8
            go_wp2_with fail
            go_roundg (T.length - (a + m + 1))
            case measure => omega
            case rel => exact ⟨a + m + 1, s', out ++ an ++ [10], by omega, by simp, by simp, by omega, by simp; omega, hsm', HRS, HX9.out, HB9⟩
set_option maxHeartbeats 1000000 in
theorem deskAnswers_walk (w : World) (T : List UInt8) (h9 : T.length ≤ 9223372036854775807) (ht : TG w) (hm : ML w) (he : EV w) (hg : HG w) :
    Calls Tryz.prog 5 #[S T] w fun e w' => e = .returned (.bool true) ∧ Below w.heap.size w w' := by
  have HN := Lib.hid (run_any T w h9 ⟨ht, hm, he, hg⟩)
  have HS := Lib.hid (fun W => session_any T W h9)
  generalize runD T = R at *
  clear ht hm he hg
  go_enter Tryz.func5, Tryz.ntmps5
  go_wp2_with fail
  refine HN.out.mono ?_
  rintro e w1 ⟨rfl, hb1⟩
  have HB1 := Lib.hid hb1
  clear hb1
  go_wp2_with fail
  refine (HS.out _).mono ?_
  rintro e w2 ⟨rfl, hb2⟩
  have HB2 := Lib.hid (HB1.out.trans (hb2.mono HB1.out.size))
  clear hb2
  go_wp2_with fail
  go_ret
  exact ⟨rfl, HB2.out⟩
end Go.Proofs.YteoofkinmilckaaGreatDoor
