/- The laws DeskBegins and DeskLines: their walks. Condition: as of Run. -/
import Derived.Test.YteoofkinmilckaaGreatDoorDeskR
import Derived.Test.YteoofkinmilckaaGreatDoorDeskP
namespace Go.Proofs.YteoofkinmilckaaGreatDoor
open Go.RowKit Go.Shelf IntWalk
attribute [local go_sem] byte_at str_app
attribute [local go_sem ↓] Go.wp_at_zero Go.wp_at_succ

theorem runD_now : runD [110, 111, 119] = [46, 10] := by
  unfold runD sesD
  rw [if_neg (by decide), show chunks [110, 111, 119] = [[110, 111, 119]] by decide]
  show (stepD (eBS, []) [110, 111, 119]).2 = _
  unfold stepD
  rw [show Lib.trimSuffix [110, 111, 119] [10] = [110, 111, 119] by decide, answerD_cut, show cutB 32 [110, 111, 119] = [[110, 111, 119]] by decide]
  rfl
theorem numD_0 : numD [48] = some 0 := by
  unfold numD
  rw [if_pos (by decide)]
  have := numO_dec 0 (by omega)
  rwa [show Lib.decDigits 0 = [48] from Lib.decDigits_one (by omega)] at this
theorem runD_lines : runD [112, 117, 116, 32, 48, 32, 97, 10, 10, 98] = [111, 107, 10, 98, 97, 100, 10, 98, 97, 100, 10] := by
  unfold runD sesD
  rw [if_neg (by decide), show chunks [112, 117, 116, 32, 48, 32, 97, 10, 10, 98] = [[112, 117, 116, 32, 48, 32, 97, 10], [10], [98]] by decide]
  show (stepD (stepD (stepD (eBS, []) [112, 117, 116, 32, 48, 32, 97, 10]) [10]) [98]).2 = _
  have h1 : stepD (eBS, []) [112, 117, 116, 32, 48, 32, 97, 10] = ((putS eBS 0 [97]).2, [111, 107, 10]) := by
    unfold stepD
    rw [show Lib.trimSuffix [112, 117, 116, 32, 48, 32, 97, 10] [10] = [112, 117, 116, 32, 48, 32, 97] by decide, answerD_cut, show cutB 32 [112, 117, 116, 32, 48, 32, 97] = [[112, 117, 116], [48], [97]] by decide, ansW_put, numD_0]
    have e : (putS eBS ((0 : Nat) : Int) [97]).1 = 0 := by show putE [] 0 0 [97] = 0; decide
    simp only []
    rw [e]
    rfl
  have h2 : ∀ (s : BS) (o : List UInt8), stepD (s, o) [10] = (s, o ++ badM ++ [10]) := fun s o => by
    unfold stepD
    rw [show Lib.trimSuffix [10] [10] = [] by decide, answerD_cut, show cutB 32 [] = [[]] by decide]
    rfl
  have h3 : ∀ (s : BS) (o : List UInt8), stepD (s, o) [98] = (s, o ++ badM ++ [10]) := fun s o => by
    unfold stepD
    rw [show Lib.trimSuffix [98] [10] = [98] by decide, answerD_cut, show cutB 32 [98] = [[98]] by decide]
    rfl
  rw [h1, h2, h3]
  rfl
theorem runD_len (T : List UInt8) : (runD T).length ≤ 130000 := by
  unfold runD
  split
  · decide
  · have h1 := (sesD_small (chunks T)).2
    have h2 := chunks_count T
    omega
theorem runD_pre {T : List UInt8} {k : Nat} (hT : T.length ≤ 3000) (hk : k ≤ T.length) (h : k = 0 ∨ bu T (k - 1) = 10) : ∃ t, runD T = runD (T.take k) ++ t := by
  have hl : (T.take k).length = k := by rw [List.length_take]; omega
  have hA : T.take k = [] ∨ bu (T.take k) ((T.take k).length - 1) = 10 := by
    rcases h with rfl | h
    · exact .inl (by simp)
    · by_cases h0 : k = 0
      · subst h0; exact .inl (by simp)
      · right; rw [hl, bu_take (by omega)]; exact h
  have hc := chunks_app (T.take k).length (T.take k) (T.drop k) (Nat.le_refl _) hA
  rw [List.take_append_drop] at hc
  obtain ⟨t, ht⟩ := ses_pre (chunks (T.drop k)) (sesD (chunks (T.take k)))
  refine ⟨t, ?_⟩
  unfold runD
  rw [if_neg (by omega), if_neg (by omega), hc, sesD_app, ht]

set_option maxRecDepth 100000 in
set_option maxHeartbeats 4000000 in
theorem deskBegins_walk (w : World) (T : List UInt8) (k : Int) (h9 : T.length ≤ 9223372036854775807) (ht : TG w) (hm : ML w) (he : EV w) (hg : HG w) :
    Calls Tryz.prog 6 #[S T, .int .i64 k] w fun e w' => e = .returned (.bool true) ∧ Below w.heap.size w w' := by
  have HV := Lib.hid (show Vars w from ⟨ht, hm, he, hg⟩)
  have HN := Lib.hid (run_any [110, 111, 119] w (by decide) HV.out)
  rw [runD_now] at HN
  clear ht hm he hg
  by_cases h3 : 3000 < T.length
  · have h3' : (3000 : Int) < (T.length : Int) := by omega
    clear h3
    go_enter Tryz.func6, Tryz.ntmps6
    go_wp2_with fail
    refine HN.out.mono ?_
    rintro e w1 ⟨rfl, hb1⟩
    have HB1 := Lib.hid hb1
    clear hb1
    go_wp2_with fail
    go_ret
    exact ⟨rfl, HB1.out⟩
  have h3' : ¬ (3000 : Int) < (T.length : Int) := by omega
  by_cases hk0 : k < 0
  · clear h3
    go_enter Tryz.func6, Tryz.ntmps6
    go_wp2_with fail
    refine HN.out.mono ?_
    rintro e w1 ⟨rfl, hb1⟩
    have HB1 := Lib.hid hb1
    clear hb1
    go_wp2_with fail
    go_ret
    exact ⟨rfl, HB1.out⟩
  by_cases hk1 : (T.length : Int) < k
  · clear h3
    go_enter Tryz.func6, Tryz.ntmps6
    go_wp2_with fail
    refine HN.out.mono ?_
    rintro e w1 ⟨rfl, hb1⟩
    have HB1 := Lib.hid hb1
    clear hb1
    go_wp2_with fail
    go_ret
    exact ⟨rfl, HB1.out⟩
  obtain ⟨k, rfl⟩ : ∃ n : Nat, k = n := ⟨k.toNat, by omega⟩
  have HYL := Lib.hid (runD_len T)
  go_enter Tryz.func6, Tryz.ntmps6
  go_wp2_with fail
  refine HN.out.mono ?_
  rintro e w1 ⟨rfl, hb1⟩
  have HB1 := Lib.hid hb1
  clear hb1 HN
  go_wp2_with fail
  go_loopg [1] k (fun f kv wr => ∃ j : Nat, j = f ∧ kv = .int .i64 (j : Int) ∧ j ≤ T.length ∧ Hid (Below w.heap.size w wr))
  case atStart => exact ⟨k, rfl, rfl, by omega, HB1⟩
  case round =>
    obtain ⟨j, rfl, rfl, hj, HB⟩ := hrel
    clear HB1
    by_cases hgo : j = 0 ∨ bu T (j - 1) = 10
    · obtain ⟨t, htt⟩ := runD_pre (by omega) hj hgo
      have HRX := Lib.hid (fun W (hb : Below w.heap.size w W) => run_any (T.take j) W (by rw [List.length_take]; omega) (HV.out.below hb))
      have HRY := Lib.hid (fun W (hb : Below w.heap.size w W) => run_any T W h9 (HV.out.below hb))
      have hx1 := str_to T j
      have HYL2 := HYL.out
      have hx2 := str_to (runD (T.take j) ++ t) (runD (T.take j)).length
      rw [List.take_left] at hx2
      rw [htt] at HRY HYL2
      generalize runD (T.take j) = X at *
      have f1 : (0 : Int) ≤ (X.length : Int) := by omega
      have f2 : (X.length : Int) ≤ ((X ++ t).length : Int) := by rw [List.length_append]; omega
      have f3 : X.length ≤ (X ++ t).length := by rw [List.length_append]; omega
      have f4 : (j : Int) ≤ (T.length : Int) := by omega
      have f5 : (0 : Int) ≤ (j : Int) := by omega
      clear htt HYL HYL2
      generalize X ++ t = Y at *
      rcases Nat.eq_zero_or_pos j with rfl | hj0
      · go_wp2_with fail
        refine (HRX.out _ HB.out).mono ?_
        rintro e w2 ⟨rfl, hb2⟩
        have HB2 := Lib.hid (HB.out.trans (hb2.mono HB.out.size))
        clear hb2
        go_wp2_with fail
        refine (HRY.out _ HB2.out).mono ?_
        rintro e w3 ⟨rfl, hb3⟩
        have HB3 := Lib.hid (HB2.out.trans (hb3.mono HB2.out.size))
        clear hb3
        go_wp2_with fail
        go_ret
        exact ⟨rfl, HB3.out⟩
      · obtain ⟨i, rfl⟩ : ∃ i, j = i + 1 := ⟨j - 1, by omega⟩
        have hb : bu T i = 10 := by
          rcases hgo with h | h
          · omega
          · simpa using h
        have q1 : (((bu T i).toNat : Int) != 10) = false := by rw [hb]; rfl
        have q2 : ((bu T i).toNat : Int) = 10 := by rw [hb]; rfl
        have r1 : IntKind.i64.wrap (((i + 1 : Nat) : Int) - 1) = (i : Int) := by rw [i64_in _ (by omega)]; omega
        have r2 : IntKind.i64.wrap ((i : Int) + 1 - 1) = (i : Int) := by rw [i64_in _ (by omega)]; omega
        have r3 : i < T.length := by omega
        have r4 : (i : Int) < (T.length : Int) := by omega
        clear hgo hb
        go_wp2_with fail
        refine (HRX.out _ HB.out).mono ?_
        rintro e w2 ⟨rfl, hb2⟩
        have HB2 := Lib.hid (HB.out.trans (hb2.mono HB.out.size))
        clear hb2
        go_wp2_with fail
        refine (HRY.out _ HB2.out).mono ?_
        rintro e w3 ⟨rfl, hb3⟩
        have HB3 := Lib.hid (HB2.out.trans (hb3.mono HB2.out.size))
        clear hb3
        go_wp2_with fail
        go_ret
        exact ⟨rfl, HB3.out⟩
    · obtain ⟨i, rfl⟩ : ∃ i, j = i + 1 := ⟨j - 1, by omega⟩
      have hb : ¬ bu T i = 10 := fun h => hgo (.inr (by simpa using h))
      have q1 : (((bu T i).toNat : Int) != 10) = true := by simp; intro h; exact hb (UInt8.toNat.inj (by show (bu T i).toNat = 10; omega))
      have r1 : IntKind.i64.wrap (((i + 1 : Nat) : Int) - 1) = (i : Int) := by rw [i64_in _ (by omega)]; omega
      have r2 : IntKind.i64.wrap ((i : Int) + 1 - 1) = (i : Int) := by rw [i64_in _ (by omega)]; omega
      have r3 : i < T.length := by omega
      have r4 : (i : Int) < (T.length : Int) := by omega
      clear hgo hb
      go_wp2_with fail
      go_roundg i
      case measure => omega
      case rel => exact ⟨i, rfl, by simp, by omega, HB⟩
end Go.Proofs.YteoofkinmilckaaGreatDoor
