/- The document's Book.Cut: its walk. No condition. -/
import Derived.Test.YteoofkinmilckaaGreatDoorBookR
namespace Go.Proofs.YteoofkinmilckaaGreatDoor
open Go.RowKit IntWalk
attribute [local go_sem] byte_at str_app
attribute [local go_sem ↓] Go.wp_at_zero Go.wp_at_succ

set_option maxRecDepth 100000 in
set_option maxHeartbeats 4000000 in
theorem cutR_any (s : BS) (at_ k : Int) (w : World) (hs : Smalls s) :
    Calls Tryz.prog 39 #[BV s, .int .i64 at_, .int .i64 k] w fun e w' => e = .returned (.tuple #[BV (cutS s at_ k).2, .int .i64 (cutS s at_ k).1]) ∧ Below w.heap.size w w' := by
  obtain ⟨g1, g2, g3⟩ := hs
  obtain ⟨now, txt, many⟩ := s
  simp only [] at g1 g2 g3
  have HE : Hid (cutE now many at_ k = if ¬ (0 ≤ at_ ∧ at_ ≤ now.length) then 1 else if ¬ (1 ≤ k ∧ k ≤ now.length - at_) then 1 else if many = 60 then 4 else 0) := Lib.hid rfl
  have HX : Hid (cutS ⟨now, txt, many⟩ at_ k = (cutE now many at_ k, if cutE now many at_ k = 0 then ⟨cutN now at_.toNat k.toNat, txt ++ downM (cutL at_.toNat k.toNat), many + 1⟩ else ⟨now, txt, many⟩)) := Lib.hid rfl
  generalize cutS ⟨now, txt, many⟩ at_ k = R at *
  by_cases h1 : 0 ≤ at_ ∧ at_ ≤ now.length
  rotate_left
  · have hF : R = (1, ⟨now, txt, many⟩) := by rw [HX.out, HE.out, if_pos h1]; rfl
    subst hF
    have HD := Lib.hid (show decide (0 ≤ at_ ∧ at_ ≤ (now.length : Int)) = false from decide_eq_false h1)
    clear h1
    go_enter Tryz.func39, Tryz.ntmps39
    go_wp2_with fail
    refine (inR_any _ _ _ _).mono ?_
    rintro e w' ⟨rfl, rfl⟩
    rw [HD.out]
    go_wp2_with fail
    refine bodyPost_ret (res_cell_tmp rfl _ _ (w.heap.size + 1) 23 _ (0, 0) _ rfl (new_at w _ _) Tryz.underlying23 rfl (by kernel_rfl)) rfl ?_
    exact ⟨rfl, ((Below.refl _ w).alloc (Nat.le_refl _) _).alloc (by simp) _⟩
  have HD := Lib.hid (show decide (0 ≤ at_ ∧ at_ ≤ (now.length : Int)) = true from decide_eq_true h1)
  have HI1 := Lib.hid h1
  have f0 : IntKind.i64.wrap ((now.length : Int) - at_) = (now.length : Int) - at_ := i64_in _ (by omega)
  clear h1
  by_cases h2 : 1 ≤ k ∧ k ≤ now.length - at_
  rotate_left
  · have hF : R = (1, ⟨now, txt, many⟩) := by rw [HX.out, HE.out, if_neg (fun h => h HI1.out), if_pos h2]; rfl
    subst hF
    have HD2 := Lib.hid (show decide (1 ≤ k ∧ k ≤ (now.length : Int) - at_) = false from decide_eq_false h2)
    clear h2
    go_enter Tryz.func39, Tryz.ntmps39
    go_wp2_with fail
    refine (inR_any _ _ _ _).mono ?_
    rintro e w' ⟨rfl, rfl⟩
    rw [HD.out]
    go_wp2_with fail
    refine (inR_any _ _ _ _).mono ?_
    rintro e w' ⟨rfl, rfl⟩
    rw [HD2.out]
    go_wp2_with fail
    refine bodyPost_ret (res_cell_tmp rfl _ _ (w.heap.size + 1) 23 _ (0, 0) _ rfl (new_at w _ _) Tryz.underlying23 rfl (by kernel_rfl)) rfl ?_
    exact ⟨rfl, ((Below.refl _ w).alloc (Nat.le_refl _) _).alloc (by simp) _⟩
  have HD2 := Lib.hid (show decide (1 ≤ k ∧ k ≤ (now.length : Int) - at_) = true from decide_eq_true h2)
  have HI2 := Lib.hid h2
  clear h2
  by_cases h60 : many = 60
  · have hF : R = (4, ⟨now, txt, many⟩) := by rw [HX.out, HE.out, if_neg (fun h => h HI1.out), if_neg (fun h => h HI2.out), if_pos h60]; rfl
    subst hF
    have h60' : (60 : Int) ≤ (many : Int) := by omega
    clear h60
    go_enter Tryz.func39, Tryz.ntmps39
    go_wp2_with fail
    refine (inR_any _ _ _ _).mono ?_
    rintro e w' ⟨rfl, rfl⟩
    rw [HD.out]
    go_wp2_with fail
    refine (inR_any _ _ _ _).mono ?_
    rintro e w' ⟨rfl, rfl⟩
    rw [HD2.out]
    go_wp2_with fail
    refine bodyPost_ret (res_cell_tmp rfl _ _ (w.heap.size + 1) 23 _ (0, 0) _ rfl (new_at w _ _) Tryz.underlying23 rfl (by kernel_rfl)) rfl ?_
    exact ⟨rfl, ((Below.refl _ w).alloc (Nat.le_refl _) _).alloc (by simp) _⟩
  have h60' : ¬ (60 : Int) ≤ (many : Int) := by omega
  have hF : R = (0, ⟨cutN now at_.toNat k.toNat, txt ++ downM (cutL at_.toNat k.toNat), many + 1⟩) := by rw [HX.out, HE.out, if_neg (fun h => h HI1.out), if_neg (fun h => h HI2.out), if_neg h60]; rfl
  subst hF
  clear HX HE h60
  obtain ⟨at_, rfl⟩ : ∃ n : Nat, at_ = n := ⟨at_.toNat, by have := HI1.out; omega⟩
  obtain ⟨k, rfl⟩ : ∃ n : Nat, k = n := ⟨k.toNat, by have := HI2.out; omega⟩
  have hal : at_ + k ≤ now.length := by have := HI2.out; omega
  have hx1 := str_to now at_
  have hx2 := str_from now (at_ + k)
  have hl1 : (now.take at_).length = at_ := by rw [List.length_take]; omega
  have hl2 : (now.drop (at_ + k)).length = now.length - (at_ + k) := List.length_drop ..
  have f5 : (0 : Int) ≤ (at_ : Int) := by omega
  have f6 : (at_ : Int) ≤ (now.length : Int) := by omega
  have f7 : IntKind.i64.wrap ((at_ : Int) + (k : Int)) = (at_ : Int) + (k : Int) := i64_in _ (by omega)
  have f8 : (0 : Int) ≤ (at_ : Int) + (k : Int) := by omega
  have f9 : (at_ : Int) + (k : Int) ≤ (now.length : Int) := by omega
  have f10 : ((at_ : Int) + (k : Int)).toNat = at_ + k := by omega
  have HL := Lib.hid (And.intro hl1 hl2)
  go_enter Tryz.func39, Tryz.ntmps39
  go_wp2_with fail
  refine (inR_any _ _ _ _).mono ?_
  rintro e w' ⟨rfl, rfl⟩
  rw [HD.out]
  go_wp2_with fail
  refine (inR_any _ _ _ _).mono ?_
  rintro e w' ⟨rfl, rfl⟩
  rw [HD2.out]
  go_wp2_with fail
  have hmin : min at_ now.length = at_ := by omega
  have nb1 : ¬ (9223372036854775807 < at_ + (now.length - (at_ + k))) := by omega
  generalize hW0 : (w.alloc (.cells #[S now, S txt, .int .i64 (many : Int)] 23)).alloc (.cells #[.string ⟨#[]⟩, .string ⟨#[]⟩, .int .i64 0] 23) = W0
  have c0 : W0.cell? ⟨w.heap.size, 0, none⟩ = some (S now) := by rw [← hW0]; simp
  go_still_tail 12, (by kernel_rfl)
  change wpList _ _ _ _ _ W0.drew
  subst hW0
  clear c0 nb1 hmin f5 f6 f7 f8 f9 f10 hl1 hl2 hx1 hx2
  have hN : now.take at_ ++ now.drop (at_ + k) = cutN now at_ k := rfl
  go_wp2_with fail
  have HPL : Hid (cutL at_ k = lineM [99] (Lib.itoa (at_ : Int)) (Lib.itoa (k : Int))) := Lib.hid rfl
  rw [Lib.itoa_nonneg, Lib.itoa_nonneg] at HPL
  have hdl := dec_len at_ (by omega)
  have hdk := dec_len k (by omega)
  have hpl : (cutL at_ k).length ≤ 100 := by rw [HPL.out]; simp only [lineM, List.length_append, List.length_cons, List.length_nil]; omega
  have hnl : (cutN now at_ k).length ≤ 24 := by rw [← hN]; have := HL.out.1; have := HL.out.2; simp only [List.length_append]; omega
  have hpe : 99 :: 32 :: (Lib.decDigits at_ ++ 32 :: Lib.decDigits k) = cutL at_ k := by rw [HPL.out]; simp [lineM]
  have HG := Lib.hid (digits_any at_)
  have HGK := Lib.hid (digits_any k)
  have at9 : at_ ≤ 1000000 := by omega
  have k9 : k ≤ 1000000 := by omega
  generalize hnn : cutN now at_ k = N at *
  generalize hpp : cutL at_ k = PL at *
  have HNN := Lib.hid hnn; have HPP := Lib.hid hpp
  clear hnn hpp
  generalize Lib.decDigits at_ = D at *
  generalize Lib.decDigits k = E at *
  have nb4 : ¬ 9223372036854775807 < 2 + D.length := by omega
  have nb5 : ¬ 9223372036854775807 < 2 + D.length + 1 := by omega
  have nb6 : ¬ 9223372036854775807 < D.length + 1 + 1 := by omega
  have nb7 : ¬ 9223372036854775807 < D.length + 1 + 1 + 1 := by omega
  have nb8 : ¬ 9223372036854775807 < D.length + 1 + 1 + 1 + E.length := by omega
  generalize hW1 : (w.alloc (.cells #[S N, S txt, .int .i64 (many : Int)] 23)).alloc (.cells #[.string ⟨#[]⟩, .string ⟨#[]⟩, .int .i64 0] 23) = W1
  have c0 : W1.drew.drew.cell? ⟨w.heap.size, 0, none⟩ = some (S N) := by rw [← hW1]; simp
  have c1 : W1.drew.drew.cell? ⟨w.heap.size, 1, none⟩ = some (S txt) := by rw [← hW1]; simp
  have c2 : W1.drew.drew.cell? ⟨w.heap.size, 2, none⟩ = some (.int .i64 (many : Int)) := by rw [← hW1]; simp
  refine wp_region_still_tail 8 (by kernel_rfl) (by kernel_rfl) ?_
  simp only [List.take_succ_cons, List.take_zero, List.drop_succ_cons, List.drop_zero]
  change wpStill _ _ W1.drew.drew _ _ _
  still_step
  still_step
  still_call ((HG.out _ at9).mono fun e w'' h => ⟨h.1, h.2.symm⟩)
  still_step
  still_step
  still_step
  still_call ((HGK.out _ k9).mono fun e w'' h => ⟨h.1, h.2.symm⟩)
  still_step
  try refine wpStill_nil ?_
  change wpList _ _ _ _ _ W1.drew.drew
  subst hW1
  try rw [hpe]
  clear c0 c1 c2 nb4 nb5 nb6 nb7 nb8 HG HGK
  go_wp2_with fail
  refine (downR_any ⟨N, txt, many⟩ PL _ (by omega) (by simp; omega) (by simp; omega)).mono ?_
  rintro e w6 ⟨rfl, hb6⟩
  have hg6 := (hb6.block (w.heap.size + 1) (new_lt w _ _)).trans (new_at w _ _)
  obtain ⟨q0, q1, q2, q3, q4, q5⟩ := three_at hg6
  go_wp2_with fail
  refine bodyPost_ret (res_cell_tmp rfl _ _ (w.heap.size + 1) 23 _ (0, 0) _ rfl (set3 hg6) Tryz.underlying23 rfl (by kernel_rfl)) rfl ?_
  exact ⟨by rw [Int.toNat_natCast, Int.toNat_natCast, HNN.out, HPP.out]; rfl, below3 hb6⟩
end Go.Proofs.YteoofkinmilckaaGreatDoor
