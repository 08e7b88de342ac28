/- Texts joined, each with its own conditions. (1) The document's fits at a star, and at whatever node; Fits: their walk. No condition. (2) The document's ways of a pattern: memory, and the small cases. No condition. (3) The document's ways of a star. No condition. (4) What stays where a row of rows grows; the document's join, typed. No condition. -/
import Derived.Test.YtchhbnnpannnhaaGreatDoorMg12
import Derived.Test.YtchhbnnpannnhaaGreatDoorNfW
namespace Go.Proofs.YtchhbnnpannnhaaGreatDoor
open Go.RowKit IntWalk
set_option linter.unusedSimpArgs false
attribute [local go_sem] byte_at str_app

/-- Some place from 1 on, ahead of j. -/
def anyQ (f : Nat → Bool) (j : Nat) : Bool := anyP (fun i => f (i + 1)) (j - 1)
theorem anyQ_step (f : Nat → Bool) {j : Nat} (h : 1 ≤ j) : anyQ f (j + 1) = (anyQ f j || f j) := by
  unfold anyQ
  obtain ⟨i, rfl⟩ : ∃ i, j = i + 1 := ⟨j - 1, by omega⟩
  rw [Nat.add_sub_cancel, Nat.add_sub_cancel, anyP_step]
theorem anyQ_of {f : Nat → Bool} {j n : Nat} (h1 : 1 ≤ j) (hj : j ≤ n) (h : f j = true) : anyQ f (n + 1) = true := by
  unfold anyQ
  obtain ⟨i, rfl⟩ : ∃ i, j = i + 1 := ⟨j - 1, by omega⟩
  exact anyP_of (i := i) (by omega) h
set_option maxRecDepth 100000 in
set_option maxHeartbeats 4000000 in
theorem fits_str0 (tl : Rt) : FitsC (.str tl) [] := by
  intro xs v l b tp k w hv hr
  have hrs := hr
  obtain ⟨ka, hx, hra⟩ := hr
  obtain ⟨g, c, rfl, hg, hk, n0, n1, n2, n3⟩ := nv_node hv hx
  have HST := Lib.hid (FB.start (l := l) (b := b) (tp := tp) ⟨4, 0, ka, 0⟩ hv)
  have hst := HST.out
  have p1 : (0 : Int) ≤ (k : Int) := by omega
  have p2 : (k : Int) < (xs.length : Int) := by omega
  obtain ⟨a0, a1, a2, a3, _, _, _, _⟩ := four_at hst.p
  obtain ⟨d0, d1, d2, d3, _, _, _, _⟩ := four_at hst.r
  have HM : Hid (mt (.str tl) [] = true) := Lib.hid (by rw [mt_str]; rfl)
  generalize mt (.str tl) [] = M at *
  clear hv hst hra hrs
  go_enter Tryz.func42, Tryz.ntmps42
  go_wp2_with fail
  go_ret
  exact ⟨by rw [HM.out]; try rfl, HST.out.bl⟩
set_option maxRecDepth 100000 in
set_option maxHeartbeats 4000000 in
theorem fits_str (tl : Rt) (s : List UInt8) (hs : s.length ≤ 1000) (hs0 : 0 < s.length) (h1 : ∀ i, FitsC tl (s.take i)) (h2 : ∀ i, 1 ≤ i → FitsC (.str tl) (s.drop i)) : FitsC (.str tl) s := by
  intro xs v l b tp k w hv hr
  have hrs := hr
  obtain ⟨ka, hx, hra⟩ := hr
  obtain ⟨g, c, rfl, hg, hk, n0, n1, n2, n3⟩ := nv_node hv hx
  have HST := Lib.hid (FB.start (l := l) (b := b) (tp := tp) ⟨4, 0, ka, 0⟩ hv)
  have hst := HST.out
  have p1 : (0 : Int) ≤ (k : Int) := by omega
  have p2 : (k : Int) < (xs.length : Int) := by omega
  obtain ⟨a0, a1, a2, a3, _, _, _, _⟩ := four_at hst.p
  obtain ⟨d0, d1, d2, d3, _, _, _, _⟩ := four_at hst.r
  have HM : Hid (mt (.str tl) s = anyQ (fun i => mt tl (s.take i) && mt (.str tl) (s.drop i)) (s.length + 1)) := Lib.hid (by
    rw [mt_str]
    have : s.isEmpty = false := by
      cases s with
      | nil => exact absurd hs0 (by simp)
      | cons => rfl
    rw [this]; rfl)
  have HL := Lib.hid (fun i W (h : NV W 0 (.slice (some ⟨g, 0, none⟩) xs.length c) xs) => h1 i xs _ l b tp ka W h hra)
  have HR := Lib.hid (fun i (h0 : 1 ≤ i) W (h : NV W 0 (.slice (some ⟨g, 0, none⟩) xs.length c) xs) => h2 i h0 xs _ l b tp k W h hrs)
  generalize mt (.str tl) s = M at *
  generalize hts : (Rt.str tl) = ts at *
  clear hts hv hst hra hrs h1 h2
  have q0 : ¬ (s.length : Int) = 0 := by omega
  have q1 : ((s.length : Int) == 0) = false := by simpa using q0
  have q2 : ¬ s.length = 0 := by omega
  go_enter Tryz.func42, Tryz.ntmps42
  go_wp2_with fail
  go_loopg [9] s.length (fun f iv wr => ∃ i : Nat, i + f = s.length + 1 ∧ 1 ≤ i ∧ iv = .int .i64 (i : Int) ∧ FB w wr (.slice (some ⟨g, 0, none⟩) xs.length c) l b tp ⟨4, 0, ka, 0⟩ xs ∧ Hid (anyQ (fun i => mt tl (s.take i) && mt ts (s.drop i)) i = false))
  case atStart => exact ⟨1, by omega, Nat.le_refl _, rfl, HST.out, Lib.hid rfl⟩
  case round =>
    obtain ⟨i, hif, hi1, rfl, hfb, HA⟩ := hrel
    clear a0 a1 a2 a3 d0 d1 d2 d3 HST n0 n1 n2 n3
    have HFB := Lib.hid hfb
    have HFD := Lib.hid hfb.drew
    obtain ⟨a0, a1, a2, a3, _, _, _, _⟩ := four_at hfb.p
    obtain ⟨d0, d1, d2, d3, _, _, _, _⟩ := four_at hfb.r
    clear hfb
    by_cases hlt : i ≤ s.length
    rotate_left
    · obtain rfl : i = s.length + 1 := by omega
      have q3 : ¬ ((s.length + 1 : Nat) : Int) ≤ (s.length : Int) := by omega
      have q4 : ¬ (s.length : Int) + 1 ≤ (s.length : Int) := by omega
      have HM2 : Hid (M = false) := Lib.hid (by rw [HM.out, HA.out])
      go_wp2_with fail
      go_ret
      exact ⟨by rw [HM2.out]; try rfl, HFB.out.bl⟩
    obtain ⟨f, rfl⟩ : ∃ f, gk = f + 1 := ⟨gk - 1, by omega⟩
    have r1 : (i : Int) ≤ (s.length : Int) := by omega
    have r2 : (0 : Int) ≤ (i : Int) := by omega
    have r3 : IntKind.i64.wrap ((i : Int) + 1) = (i : Int) + 1 := i64_in _ (by omega)
    have hx1 := str_to s i
    have hx2 := str_from s i
    have HC1 := Lib.hid (HL.out i _ HFD.out.nv)
    have HC2 := Lib.hid (HR.out i hi1)
    have HS1 : Hid (mt tl (s.take i) = true → mt ts (s.drop i) = true → M = true) := Lib.hid fun e1 e2 => by rw [HM.out]; exact anyQ_of (j := i) hi1 hlt (by rw [e1, e2]; rfl)
    have HS2 : Hid ((mt tl (s.take i) && mt ts (s.drop i)) = false → anyQ (fun i => mt tl (s.take i) && mt ts (s.drop i)) (i + 1) = false) := Lib.hid fun e => by rw [anyQ_step _ hi1, HA.out, e]; rfl
    generalize s.take i = sa at *
    generalize s.drop i = sb at *
    generalize hm1 : mt tl sa = m1 at *
    generalize hm2 : mt ts sb = m2 at *
    clear hm1 hm2 hlt HA
    cases m1
    · go_upto_region 20 with fail
      refine wp_region_held_drew (S := (fun W => (W.cell? ⟨w.heap.size, 0, none⟩ = some (.slice (some ⟨g, 0, none⟩) xs.length c) ∧ W.cell? ⟨w.heap.size, 1, none⟩ = some (S l) ∧ W.cell? ⟨w.heap.size, 2, none⟩ = some (.bool b) ∧ W.cell? ⟨w.heap.size, 3, none⟩ = some (.int .i64 (tp : Int))) ∧ (W.cell? ⟨w.heap.size + 1, 2, none⟩ = some (.int .i64 (ka : Int)) ∧ W.cell? ⟨w.heap.size + 1, 3, none⟩ = some (.int .i64 ((0 : Nat) : Int))) ∧ FB w W (.slice (some ⟨g, 0, none⟩) xs.length c) l b tp ⟨4, 0, ka, 0⟩ xs)) (by first | assumption | kernel_rfl | rfl) (FB.all HFD.out) (fun hH => ?_)
      refine wpAnyH_take (i := 0) (v := ?_) rfl (by kernel_rfl) (by kernel_rfl) (by kernel_rfl) (fun _ _ _ h => h) (Or.inl ⟨by rfl, ?_⟩) hH ?_
      rotate_left
      · intro W hSw; (try dsimp only at hSw); go_simp; try with_reducible rfl
      try simp only [Act.put, List.getElem_toArray, List.getElem_cons_zero, List.getElem_cons_succ, List.setIfInBounds_toArray, List.set_cons_zero, List.set_cons_succ]
      refine wpAnyH_take (i := 1) (v := ?_) rfl (by kernel_rfl) (by kernel_rfl) (by kernel_rfl) (fun _ _ _ h => h) (Or.inl ⟨by rfl, ?_⟩) hH ?_
      rotate_left
      · intro W hSw; (try dsimp only at hSw); go_simp; try with_reducible rfl
      try simp only [Act.put, List.getElem_toArray, List.getElem_cons_zero, List.getElem_cons_succ, List.setIfInBounds_toArray, List.set_cons_zero, List.set_cons_succ]
      refine wpAnyH_take (i := 2) (v := ?_) rfl (by kernel_rfl) (by kernel_rfl) (by kernel_rfl) (fun _ _ _ h => h) (Or.inl ⟨by rfl, ?_⟩) hH ?_
      rotate_left
      · intro W hSw; (try dsimp only at hSw); go_simp; try with_reducible rfl
      try simp only [Act.put, List.getElem_toArray, List.getElem_cons_zero, List.getElem_cons_succ, List.setIfInBounds_toArray, List.set_cons_zero, List.set_cons_succ]
      refine wpAnyH_take (i := 3) (v := ?_) rfl (by kernel_rfl) (by kernel_rfl) (by kernel_rfl) (fun _ _ _ h => h) (Or.inl ⟨by rfl, ?_⟩) hH ?_
      rotate_left
      · intro W hSw; (try dsimp only at hSw); go_simp; try with_reducible rfl
      try simp only [Act.put, List.getElem_toArray, List.getElem_cons_zero, List.getElem_cons_succ, List.setIfInBounds_toArray, List.set_cons_zero, List.set_cons_succ]
      refine wpAnyH_take (i := 4) (v := ?_) rfl (by kernel_rfl) (by kernel_rfl) (by kernel_rfl) (fun _ _ _ h => h) (Or.inl ⟨by rfl, ?_⟩) hH ?_
      rotate_left
      · intro W hSw; (try dsimp only at hSw); go_simp; try with_reducible rfl
      try simp only [Act.put, List.getElem_toArray, List.getElem_cons_zero, List.getElem_cons_succ, List.setIfInBounds_toArray, List.set_cons_zero, List.set_cons_succ]
      refine wpAnyH_take (i := 5) (v := ?_) rfl (by kernel_rfl) (by kernel_rfl) (by kernel_rfl) (fun _ _ _ h => h) (Or.inl ⟨by rfl, ?_⟩) hH ?_
      rotate_left
      · intro W hSw; (try dsimp only at hSw); go_simp; try with_reducible rfl
      try simp only [Act.put, List.getElem_toArray, List.getElem_cons_zero, List.getElem_cons_succ, List.setIfInBounds_toArray, List.set_cons_zero, List.set_cons_succ]
      refine wpAnyH_ready (rs := [6]) (by kernel_rfl) (by simp) (AllReadyH.cons rfl (fun K hK => ?_) AllReadyH.nil)
      go_simp
      (with_reducible refine Calls.mono HC1.out ?_)
      rintro e w5 ⟨rfl, hb5⟩
      go_wp2_with fail
      refine hK.out _ _ (FB.all (HFD.out.below hb5)) (fun hH5 => ?_)
      clear hK K
      try simp only [Act.put, List.getElem_toArray, List.getElem_cons_zero, List.getElem_cons_succ, List.setIfInBounds_toArray, List.set_cons_zero, List.set_cons_succ]
      refine wpAnyH_take (i := 7) (v := ?_) rfl (by kernel_rfl) (by kernel_rfl) (by kernel_rfl) (fun _ _ _ h => h) (Or.inl ⟨by rfl, ?_⟩) hH5 ?_
      rotate_left
      · intro W hSw; (try dsimp only at hSw); go_simp; try with_reducible rfl
      try simp only [Act.put, List.getElem_toArray, List.getElem_cons_zero, List.getElem_cons_succ, List.setIfInBounds_toArray, List.set_cons_zero, List.set_cons_succ]
      refine wpAnyH_take (i := 8) (v := undef) rfl (by kernel_rfl) (by kernel_rfl) (by kernel_rfl) (fun _ _ _ h => h) (Or.inr ⟨by rfl, rfl⟩) hH5 ?_
      try simp only [Act.put, List.getElem_toArray, List.getElem_cons_zero, List.getElem_cons_succ, List.setIfInBounds_toArray, List.set_cons_zero, List.set_cons_succ]
      refine wpAnyH_take (i := 9) (v := undef) rfl (by kernel_rfl) (by kernel_rfl) (by kernel_rfl) (fun _ _ _ h => h) (Or.inr ⟨by rfl, rfl⟩) hH5 ?_
      try simp only [Act.put, List.getElem_toArray, List.getElem_cons_zero, List.getElem_cons_succ, List.setIfInBounds_toArray, List.set_cons_zero, List.set_cons_succ]
      refine wpAnyH_take (i := 10) (v := undef) rfl (by kernel_rfl) (by kernel_rfl) (by kernel_rfl) (fun _ _ _ h => h) (Or.inr ⟨by rfl, rfl⟩) hH5 ?_
      try simp only [Act.put, List.getElem_toArray, List.getElem_cons_zero, List.getElem_cons_succ, List.setIfInBounds_toArray, List.set_cons_zero, List.set_cons_succ]
      refine wpAnyH_take (i := 11) (v := undef) rfl (by kernel_rfl) (by kernel_rfl) (by kernel_rfl) (fun _ _ _ h => h) (Or.inr ⟨by rfl, rfl⟩) hH5 ?_
      try simp only [Act.put, List.getElem_toArray, List.getElem_cons_zero, List.getElem_cons_succ, List.setIfInBounds_toArray, List.set_cons_zero, List.set_cons_succ]
      refine wpAnyH_take (i := 12) (v := undef) rfl (by kernel_rfl) (by kernel_rfl) (by kernel_rfl) (fun _ _ _ h => h) (Or.inr ⟨by rfl, rfl⟩) hH5 ?_
      try simp only [Act.put, List.getElem_toArray, List.getElem_cons_zero, List.getElem_cons_succ, List.setIfInBounds_toArray, List.set_cons_zero, List.set_cons_succ]
      refine wpAnyH_take (i := 13) (v := undef) rfl (by kernel_rfl) (by kernel_rfl) (by kernel_rfl) (fun _ _ _ h => h) (Or.inr ⟨by rfl, rfl⟩) hH5 ?_
      try simp only [Act.put, List.getElem_toArray, List.getElem_cons_zero, List.getElem_cons_succ, List.setIfInBounds_toArray, List.set_cons_zero, List.set_cons_succ]
      refine wpAnyH_take (i := 14) (v := ?_) rfl (by kernel_rfl) (by kernel_rfl) (by kernel_rfl) (fun _ _ _ h => h) (Or.inl ⟨by rfl, ?_⟩) hH5 ?_
      rotate_left
      · intro W hSw; (try dsimp only at hSw); go_simp; try with_reducible rfl
      try simp only [Act.put, List.getElem_toArray, List.getElem_cons_zero, List.getElem_cons_succ, List.setIfInBounds_toArray, List.set_cons_zero, List.set_cons_succ]
      refine wpAnyH_done (by kernel_rfl) ?_ _
      have HF5 := Lib.hid (HFD.out.below hb5)
      have HA2 := Lib.hid (HS2.out rfl)
      clear hb5 hH hH5
      go_wp2_with fail
      go_roundg f
      case measure => omega
      case rel => exact ⟨i + 1, by omega, by omega, by simp, HF5.out, HA2⟩
    · cases m2
      · go_upto_region 20 with fail
        refine wp_region_held_drew (S := (fun W => (W.cell? ⟨w.heap.size, 0, none⟩ = some (.slice (some ⟨g, 0, none⟩) xs.length c) ∧ W.cell? ⟨w.heap.size, 1, none⟩ = some (S l) ∧ W.cell? ⟨w.heap.size, 2, none⟩ = some (.bool b) ∧ W.cell? ⟨w.heap.size, 3, none⟩ = some (.int .i64 (tp : Int))) ∧ (W.cell? ⟨w.heap.size + 1, 2, none⟩ = some (.int .i64 (ka : Int)) ∧ W.cell? ⟨w.heap.size + 1, 3, none⟩ = some (.int .i64 ((0 : Nat) : Int))) ∧ FB w W (.slice (some ⟨g, 0, none⟩) xs.length c) l b tp ⟨4, 0, ka, 0⟩ xs)) (by first | assumption | kernel_rfl | rfl) (FB.all HFD.out) (fun hH => ?_)
        refine wpAnyH_take (i := 0) (v := ?_) rfl (by kernel_rfl) (by kernel_rfl) (by kernel_rfl) (fun _ _ _ h => h) (Or.inl ⟨by rfl, ?_⟩) hH ?_
        rotate_left
        · intro W hSw; (try dsimp only at hSw); go_simp; try with_reducible rfl
        try simp only [Act.put, List.getElem_toArray, List.getElem_cons_zero, List.getElem_cons_succ, List.setIfInBounds_toArray, List.set_cons_zero, List.set_cons_succ]
        refine wpAnyH_take (i := 1) (v := ?_) rfl (by kernel_rfl) (by kernel_rfl) (by kernel_rfl) (fun _ _ _ h => h) (Or.inl ⟨by rfl, ?_⟩) hH ?_
        rotate_left
        · intro W hSw; (try dsimp only at hSw); go_simp; try with_reducible rfl
        try simp only [Act.put, List.getElem_toArray, List.getElem_cons_zero, List.getElem_cons_succ, List.setIfInBounds_toArray, List.set_cons_zero, List.set_cons_succ]
        refine wpAnyH_take (i := 2) (v := ?_) rfl (by kernel_rfl) (by kernel_rfl) (by kernel_rfl) (fun _ _ _ h => h) (Or.inl ⟨by rfl, ?_⟩) hH ?_
        rotate_left
        · intro W hSw; (try dsimp only at hSw); go_simp; try with_reducible rfl
        try simp only [Act.put, List.getElem_toArray, List.getElem_cons_zero, List.getElem_cons_succ, List.setIfInBounds_toArray, List.set_cons_zero, List.set_cons_succ]
        refine wpAnyH_take (i := 3) (v := ?_) rfl (by kernel_rfl) (by kernel_rfl) (by kernel_rfl) (fun _ _ _ h => h) (Or.inl ⟨by rfl, ?_⟩) hH ?_
        rotate_left
        · intro W hSw; (try dsimp only at hSw); go_simp; try with_reducible rfl
        try simp only [Act.put, List.getElem_toArray, List.getElem_cons_zero, List.getElem_cons_succ, List.setIfInBounds_toArray, List.set_cons_zero, List.set_cons_succ]
        refine wpAnyH_take (i := 4) (v := ?_) rfl (by kernel_rfl) (by kernel_rfl) (by kernel_rfl) (fun _ _ _ h => h) (Or.inl ⟨by rfl, ?_⟩) hH ?_
        rotate_left
        · intro W hSw; (try dsimp only at hSw); go_simp; try with_reducible rfl
        try simp only [Act.put, List.getElem_toArray, List.getElem_cons_zero, List.getElem_cons_succ, List.setIfInBounds_toArray, List.set_cons_zero, List.set_cons_succ]
        refine wpAnyH_take (i := 5) (v := ?_) rfl (by kernel_rfl) (by kernel_rfl) (by kernel_rfl) (fun _ _ _ h => h) (Or.inl ⟨by rfl, ?_⟩) hH ?_
        rotate_left
        · intro W hSw; (try dsimp only at hSw); go_simp; try with_reducible rfl
        try simp only [Act.put, List.getElem_toArray, List.getElem_cons_zero, List.getElem_cons_succ, List.setIfInBounds_toArray, List.set_cons_zero, List.set_cons_succ]
        refine wpAnyH_ready (rs := [6]) (by kernel_rfl) (by simp) (AllReadyH.cons rfl (fun K hK => ?_) AllReadyH.nil)
        go_simp
        (with_reducible refine Calls.mono HC1.out ?_)
        rintro e w5 ⟨rfl, hb5⟩
        go_wp2_with fail
        refine hK.out _ _ (FB.all (HFD.out.below hb5)) (fun hH5 => ?_)
        clear hK K
        try simp only [Act.put, List.getElem_toArray, List.getElem_cons_zero, List.getElem_cons_succ, List.setIfInBounds_toArray, List.set_cons_zero, List.set_cons_succ]
        refine wpAnyH_take (i := 7) (v := ?_) rfl (by kernel_rfl) (by kernel_rfl) (by kernel_rfl) (fun _ _ _ h => h) (Or.inl ⟨by rfl, ?_⟩) hH5 ?_
        rotate_left
        · intro W hSw; (try dsimp only at hSw); go_simp; try with_reducible rfl
        try simp only [Act.put, List.getElem_toArray, List.getElem_cons_zero, List.getElem_cons_succ, List.setIfInBounds_toArray, List.set_cons_zero, List.set_cons_succ]
        refine wpAnyH_take (i := 8) (v := ?_) rfl (by kernel_rfl) (by kernel_rfl) (by kernel_rfl) (fun _ _ _ h => h) (Or.inl ⟨by rfl, ?_⟩) hH5 ?_
        rotate_left
        · intro W hSw; (try dsimp only at hSw); go_simp; try with_reducible rfl
        try simp only [Act.put, List.getElem_toArray, List.getElem_cons_zero, List.getElem_cons_succ, List.setIfInBounds_toArray, List.set_cons_zero, List.set_cons_succ]
        refine wpAnyH_take (i := 9) (v := ?_) rfl (by kernel_rfl) (by kernel_rfl) (by kernel_rfl) (fun _ _ _ h => h) (Or.inl ⟨by rfl, ?_⟩) hH5 ?_
        rotate_left
        · intro W hSw; (try dsimp only at hSw); go_simp; try with_reducible rfl
        try simp only [Act.put, List.getElem_toArray, List.getElem_cons_zero, List.getElem_cons_succ, List.setIfInBounds_toArray, List.set_cons_zero, List.set_cons_succ]
        refine wpAnyH_take (i := 10) (v := ?_) rfl (by kernel_rfl) (by kernel_rfl) (by kernel_rfl) (fun _ _ _ h => h) (Or.inl ⟨by rfl, ?_⟩) hH5 ?_
        rotate_left
        · intro W hSw; (try dsimp only at hSw); go_simp; try with_reducible rfl
        try simp only [Act.put, List.getElem_toArray, List.getElem_cons_zero, List.getElem_cons_succ, List.setIfInBounds_toArray, List.set_cons_zero, List.set_cons_succ]
        refine wpAnyH_take (i := 11) (v := ?_) rfl (by kernel_rfl) (by kernel_rfl) (by kernel_rfl) (fun _ _ _ h => h) (Or.inl ⟨by rfl, ?_⟩) hH5 ?_
        rotate_left
        · intro W hSw; (try dsimp only at hSw); go_simp; try with_reducible rfl
        try simp only [Act.put, List.getElem_toArray, List.getElem_cons_zero, List.getElem_cons_succ, List.setIfInBounds_toArray, List.set_cons_zero, List.set_cons_succ]
        refine wpAnyH_take (i := 12) (v := ?_) rfl (by kernel_rfl) (by kernel_rfl) (by kernel_rfl) (fun _ _ _ h => h) (Or.inl ⟨by rfl, ?_⟩) hH5 ?_
        rotate_left
        · intro W hSw; (try dsimp only at hSw); go_simp; try with_reducible rfl
        try simp only [Act.put, List.getElem_toArray, List.getElem_cons_zero, List.getElem_cons_succ, List.setIfInBounds_toArray, List.set_cons_zero, List.set_cons_succ]
        refine wpAnyH_ready (rs := [13]) (by kernel_rfl) (by simp) (AllReadyH.cons rfl (fun K hK => ?_) AllReadyH.nil)
        go_simp
        have hf5 := HFD.out.below hb5
        (with_reducible refine Calls.mono (HC2.out _ hf5.nv) ?_)
        rintro e w6 ⟨rfl, hb6⟩
        go_wp2_with fail
        refine hK.out _ _ (FB.all (hf5.below hb6)) (fun hH6 => ?_)
        clear hK K
        try simp only [Act.put, List.getElem_toArray, List.getElem_cons_zero, List.getElem_cons_succ, List.setIfInBounds_toArray, List.set_cons_zero, List.set_cons_succ]
        refine wpAnyH_take (i := 14) (v := ?_) rfl (by kernel_rfl) (by kernel_rfl) (by kernel_rfl) (fun _ _ _ h => h) (Or.inl ⟨by rfl, ?_⟩) hH6 ?_
        rotate_left
        · intro W hSw; (try dsimp only at hSw); go_simp; try with_reducible rfl
        try simp only [Act.put, List.getElem_toArray, List.getElem_cons_zero, List.getElem_cons_succ, List.setIfInBounds_toArray, List.set_cons_zero, List.set_cons_succ]
        refine wpAnyH_done (by kernel_rfl) ?_ _
        have HF6 := Lib.hid (hf5.below hb6)
        have HA2 := Lib.hid (HS2.out rfl)
        clear hb5 hb6 hf5 hH hH5 hH6
        go_wp2_with fail
        go_roundg f
        case measure => omega
        case rel => exact ⟨i + 1, by omega, by omega, by simp, HF6.out, HA2⟩
      · go_upto_region 20 with fail
        refine wp_region_held_drew (S := (fun W => (W.cell? ⟨w.heap.size, 0, none⟩ = some (.slice (some ⟨g, 0, none⟩) xs.length c) ∧ W.cell? ⟨w.heap.size, 1, none⟩ = some (S l) ∧ W.cell? ⟨w.heap.size, 2, none⟩ = some (.bool b) ∧ W.cell? ⟨w.heap.size, 3, none⟩ = some (.int .i64 (tp : Int))) ∧ (W.cell? ⟨w.heap.size + 1, 2, none⟩ = some (.int .i64 (ka : Int)) ∧ W.cell? ⟨w.heap.size + 1, 3, none⟩ = some (.int .i64 ((0 : Nat) : Int))) ∧ FB w W (.slice (some ⟨g, 0, none⟩) xs.length c) l b tp ⟨4, 0, ka, 0⟩ xs)) (by first | assumption | kernel_rfl | rfl) (FB.all HFD.out) (fun hH => ?_)
        refine wpAnyH_take (i := 0) (v := ?_) rfl (by kernel_rfl) (by kernel_rfl) (by kernel_rfl) (fun _ _ _ h => h) (Or.inl ⟨by rfl, ?_⟩) hH ?_
        rotate_left
        · intro W hSw; (try dsimp only at hSw); go_simp; try with_reducible rfl
        try simp only [Act.put, List.getElem_toArray, List.getElem_cons_zero, List.getElem_cons_succ, List.setIfInBounds_toArray, List.set_cons_zero, List.set_cons_succ]
        refine wpAnyH_take (i := 1) (v := ?_) rfl (by kernel_rfl) (by kernel_rfl) (by kernel_rfl) (fun _ _ _ h => h) (Or.inl ⟨by rfl, ?_⟩) hH ?_
        rotate_left
        · intro W hSw; (try dsimp only at hSw); go_simp; try with_reducible rfl
        try simp only [Act.put, List.getElem_toArray, List.getElem_cons_zero, List.getElem_cons_succ, List.setIfInBounds_toArray, List.set_cons_zero, List.set_cons_succ]
        refine wpAnyH_take (i := 2) (v := ?_) rfl (by kernel_rfl) (by kernel_rfl) (by kernel_rfl) (fun _ _ _ h => h) (Or.inl ⟨by rfl, ?_⟩) hH ?_
        rotate_left
        · intro W hSw; (try dsimp only at hSw); go_simp; try with_reducible rfl
        try simp only [Act.put, List.getElem_toArray, List.getElem_cons_zero, List.getElem_cons_succ, List.setIfInBounds_toArray, List.set_cons_zero, List.set_cons_succ]
        refine wpAnyH_take (i := 3) (v := ?_) rfl (by kernel_rfl) (by kernel_rfl) (by kernel_rfl) (fun _ _ _ h => h) (Or.inl ⟨by rfl, ?_⟩) hH ?_
        rotate_left
        · intro W hSw; (try dsimp only at hSw); go_simp; try with_reducible rfl
        try simp only [Act.put, List.getElem_toArray, List.getElem_cons_zero, List.getElem_cons_succ, List.setIfInBounds_toArray, List.set_cons_zero, List.set_cons_succ]
        refine wpAnyH_take (i := 4) (v := ?_) rfl (by kernel_rfl) (by kernel_rfl) (by kernel_rfl) (fun _ _ _ h => h) (Or.inl ⟨by rfl, ?_⟩) hH ?_
        rotate_left
        · intro W hSw; (try dsimp only at hSw); go_simp; try with_reducible rfl
        try simp only [Act.put, List.getElem_toArray, List.getElem_cons_zero, List.getElem_cons_succ, List.setIfInBounds_toArray, List.set_cons_zero, List.set_cons_succ]
        refine wpAnyH_take (i := 5) (v := ?_) rfl (by kernel_rfl) (by kernel_rfl) (by kernel_rfl) (fun _ _ _ h => h) (Or.inl ⟨by rfl, ?_⟩) hH ?_
        rotate_left
        · intro W hSw; (try dsimp only at hSw); go_simp; try with_reducible rfl
        try simp only [Act.put, List.getElem_toArray, List.getElem_cons_zero, List.getElem_cons_succ, List.setIfInBounds_toArray, List.set_cons_zero, List.set_cons_succ]
        refine wpAnyH_ready (rs := [6]) (by kernel_rfl) (by simp) (AllReadyH.cons rfl (fun K hK => ?_) AllReadyH.nil)
        go_simp
        (with_reducible refine Calls.mono HC1.out ?_)
        rintro e w5 ⟨rfl, hb5⟩
        go_wp2_with fail
        refine hK.out _ _ (FB.all (HFD.out.below hb5)) (fun hH5 => ?_)
        clear hK K
        try simp only [Act.put, List.getElem_toArray, List.getElem_cons_zero, List.getElem_cons_succ, List.setIfInBounds_toArray, List.set_cons_zero, List.set_cons_succ]
        refine wpAnyH_take (i := 7) (v := ?_) rfl (by kernel_rfl) (by kernel_rfl) (by kernel_rfl) (fun _ _ _ h => h) (Or.inl ⟨by rfl, ?_⟩) hH5 ?_
        rotate_left
        · intro W hSw; (try dsimp only at hSw); go_simp; try with_reducible rfl
        try simp only [Act.put, List.getElem_toArray, List.getElem_cons_zero, List.getElem_cons_succ, List.setIfInBounds_toArray, List.set_cons_zero, List.set_cons_succ]
        refine wpAnyH_take (i := 8) (v := ?_) rfl (by kernel_rfl) (by kernel_rfl) (by kernel_rfl) (fun _ _ _ h => h) (Or.inl ⟨by rfl, ?_⟩) hH5 ?_
        rotate_left
        · intro W hSw; (try dsimp only at hSw); go_simp; try with_reducible rfl
        try simp only [Act.put, List.getElem_toArray, List.getElem_cons_zero, List.getElem_cons_succ, List.setIfInBounds_toArray, List.set_cons_zero, List.set_cons_succ]
        refine wpAnyH_take (i := 9) (v := ?_) rfl (by kernel_rfl) (by kernel_rfl) (by kernel_rfl) (fun _ _ _ h => h) (Or.inl ⟨by rfl, ?_⟩) hH5 ?_
        rotate_left
        · intro W hSw; (try dsimp only at hSw); go_simp; try with_reducible rfl
        try simp only [Act.put, List.getElem_toArray, List.getElem_cons_zero, List.getElem_cons_succ, List.setIfInBounds_toArray, List.set_cons_zero, List.set_cons_succ]
        refine wpAnyH_take (i := 10) (v := ?_) rfl (by kernel_rfl) (by kernel_rfl) (by kernel_rfl) (fun _ _ _ h => h) (Or.inl ⟨by rfl, ?_⟩) hH5 ?_
        rotate_left
        · intro W hSw; (try dsimp only at hSw); go_simp; try with_reducible rfl
        try simp only [Act.put, List.getElem_toArray, List.getElem_cons_zero, List.getElem_cons_succ, List.setIfInBounds_toArray, List.set_cons_zero, List.set_cons_succ]
        refine wpAnyH_take (i := 11) (v := ?_) rfl (by kernel_rfl) (by kernel_rfl) (by kernel_rfl) (fun _ _ _ h => h) (Or.inl ⟨by rfl, ?_⟩) hH5 ?_
        rotate_left
        · intro W hSw; (try dsimp only at hSw); go_simp; try with_reducible rfl
        try simp only [Act.put, List.getElem_toArray, List.getElem_cons_zero, List.getElem_cons_succ, List.setIfInBounds_toArray, List.set_cons_zero, List.set_cons_succ]
        refine wpAnyH_take (i := 12) (v := ?_) rfl (by kernel_rfl) (by kernel_rfl) (by kernel_rfl) (fun _ _ _ h => h) (Or.inl ⟨by rfl, ?_⟩) hH5 ?_
        rotate_left
        · intro W hSw; (try dsimp only at hSw); go_simp; try with_reducible rfl
        try simp only [Act.put, List.getElem_toArray, List.getElem_cons_zero, List.getElem_cons_succ, List.setIfInBounds_toArray, List.set_cons_zero, List.set_cons_succ]
        refine wpAnyH_ready (rs := [13]) (by kernel_rfl) (by simp) (AllReadyH.cons rfl (fun K hK => ?_) AllReadyH.nil)
        go_simp
        have hf5 := HFD.out.below hb5
        (with_reducible refine Calls.mono (HC2.out _ hf5.nv) ?_)
        rintro e w6 ⟨rfl, hb6⟩
        go_wp2_with fail
        refine hK.out _ _ (FB.all (hf5.below hb6)) (fun hH6 => ?_)
        clear hK K
        try simp only [Act.put, List.getElem_toArray, List.getElem_cons_zero, List.getElem_cons_succ, List.setIfInBounds_toArray, List.set_cons_zero, List.set_cons_succ]
        refine wpAnyH_take (i := 14) (v := ?_) rfl (by kernel_rfl) (by kernel_rfl) (by kernel_rfl) (fun _ _ _ h => h) (Or.inl ⟨by rfl, ?_⟩) hH6 ?_
        rotate_left
        · intro W hSw; (try dsimp only at hSw); go_simp; try with_reducible rfl
        try simp only [Act.put, List.getElem_toArray, List.getElem_cons_zero, List.getElem_cons_succ, List.setIfInBounds_toArray, List.set_cons_zero, List.set_cons_succ]
        refine wpAnyH_done (by kernel_rfl) ?_ _
        have HF6 := Lib.hid (hf5.below hb6)
        have HM2 : Hid (M = true) := Lib.hid (HS1.out (by first | rfl | trivial) (by first | rfl | trivial))
        clear hb5 hb6 hf5 hH hH5 hH6
        go_wp2_with fail
        go_ret
        exact ⟨by rw [HM2.out]; try rfl, HF6.out.bl⟩
theorem fits_strAll (tl : Rt) (h1 : ∀ s : List UInt8, s.length ≤ 1000 → FitsC tl s) : ∀ (n : Nat) (s : List UInt8), s.length ≤ n → s.length ≤ 1000 → FitsC (.str tl) s
  | 0, s, hn, _ => by
    obtain rfl : s = [] := List.length_eq_zero_iff.1 (by omega)
    exact fits_str0 tl
  | n + 1, s, hn, hs => by
    rcases Nat.eq_zero_or_pos s.length with h0 | h0
    · obtain rfl : s = [] := List.length_eq_zero_iff.1 h0
      exact fits_str0 tl
    · exact fits_str tl s hs h0 (fun i => h1 _ (by rw [List.length_take]; omega)) fun i hi => fits_strAll tl h1 n _ (by rw [List.length_drop]; omega) (by rw [List.length_drop]; omega)
theorem fits_any : ∀ (t : Rt) (s : List UInt8), s.length ≤ 1000 → FitsC t s
  | .emp, s, _ => fits_emp s
  | .sgn d, s, _ => fits_sgn d s
  | .alt l r, s, hs => fits_alt l r s (fits_any l s hs) (fits_any r s hs)
  | .seq l r, s, hs => fits_seq l r s hs (fun i => fits_any l _ (by rw [List.length_take]; omega)) fun i => fits_any r _ (by rw [List.length_drop]; omega)
  | .str l, s, hs => fits_strAll l (fits_any l) s.length s (Nat.le_refl _) hs
end Go.Proofs.YtchhbnnpannnhaaGreatDoor

namespace Go.Proofs.YtchhbnnpannnhaaGreatDoor
open Go.RowKit IntWalk Go.Maps
set_option linter.unusedSimpArgs false
set_option linter.unusedVariables false
attribute [local go_sem] byte_at str_app

/-- A row of places that is read; its block is one of numbers. -/
def IW (W : World) (v : Value) (L : List Nat) : Prop := ∃ A c, v = Value.slice A L.length c ∧ (0 < L.length → ∃ (b off : Nat) (cu : Array Value), A = some ⟨b, off, none⟩ ∧ W.heap[b]? = some (Obj.cells cu 3 (0, 0)) ∧ ∀ j, j < L.length → cu[off + j]? = some (.int .i64 (gi (zs L) j)))
/-- All blocks but the ways' stay. -/
def KeepW (W W' : World) : Prop := ∀ (k : Nat) (cu : Array Value) (t : TypeId), W.heap[k]? = some (Obj.cells cu t (0, 0)) → t ≠ 79 → W'.heap[k]? = some (Obj.cells cu t (0, 0))
section
variable {W W' W2 : World} {v : Value} {L : List Nat}
theorem KeepW.refl (W : World) : KeepW W W := fun _ _ _ h _ => h
theorem KeepW.trans (h : KeepW W W') (h2 : KeepW W' W2) : KeepW W W2 := fun k cu t hk ht => h2 k cu t (h k cu t hk ht) ht
theorem KeepW.of {B : Nat} (hb : Below B W W') (hB : W.heap.size ≤ B) : KeepW W W' := fun k cu t hk _ => (hb.block k (by have := (Array.getElem?_eq_some_iff.1 hk).1; omega)).trans hk
theorem KeepW.set {g i : Nat} {u : Value} {cs : Array Value} {fr : Nat × Nat} (h : W.heap[g]? = some (Obj.cells cs 79 fr)) : KeepW W (W.setCell ⟨g, i, none⟩ u) := fun k cu t hk ht => by
  have hne : k ≠ g := fun e => by
    subst e
    rw [hk] at h
    injection h with h; injection h with _ h _
    exact ht h
  exact (Below.heap_setCell _ _ _ _ hne).trans hk
theorem IW.keep (h : IW W v L) (hk : KeepW W W') : IW W' v L := by
  obtain ⟨A, c, e, h2⟩ := h
  refine ⟨A, c, e, fun hn => ?_⟩
  obtain ⟨b, off, cu, e1, e2, e3⟩ := h2 hn
  exact ⟨b, off, cu, e1, hk b cu _ e2 (by decide), e3⟩
theorem IW.ints {A : Option Addr} {n c : Nat} (h : IW W (.slice A n c) L) : Ints W W.heap.size A n (zs L) ∧ n = L.length := by
  obtain ⟨A', c', e, h2⟩ := h
  injection e with e1 e2 e3
  subst e1 e2 e3
  refine ⟨⟨by simp, fun hn => ?_⟩, rfl⟩
  obtain ⟨b, off, cu, e1, e2, e3⟩ := h2 hn
  exact ⟨b, off, e1, (Array.getElem?_eq_some_iff.1 e2).1, fun j hj => by rw [cell_of_row W b _ cu _ (0, 0) e2]; exact e3 j hj⟩
theorem IW.shape (h : IW W v L) : ∃ A c, v = .slice A L.length c := by obtain ⟨A, c, e, _⟩ := h; exact ⟨A, c, e⟩
theorem IW.nil (W : World) : IW W (.slice none 0 0) [] := ⟨none, 0, rfl, fun h => absurd h (by simp)⟩
theorem IW.own {D : Nat} (h : W.ownsRow D 3 1 v L.length (L.map eI)) : IW W v L := by
  rcases h.2 with ⟨rfl, hz⟩ | ⟨g, cap, cur, rfl, hg, hh, h1, h2, h3, h4⟩
  · have : L = [] := List.eq_nil_of_length_eq_zero hz
    subst this
    exact IW.nil W
  · refine ⟨some ⟨g, 0, none⟩, cap, rfl, fun hp => ⟨g, 0, cur, rfl, hh, fun j hj => ?_⟩⟩
    have := World.ownsRow.cells h (g := g) rfl j (.int .i64 (gi (zs L) j)) (by rw [List.getElem?_map, List.getElem?_eq_getElem hj, gi_eq (by simpa using hj)]; simp)
    rw [Addr.add_lit, cell_of_row W g _ cur _ (0, 0) hh] at this
    exact this
theorem IW.one (w : World) (x : Nat) : IW (w.alloc (.cells #[.int .i64 (x : Int)] 3)) (.slice (some ⟨w.heap.size, 0, none⟩) 1 1) [x] :=
  ⟨_, _, rfl, fun _ => ⟨w.heap.size, 0, _, rfl, heap_alloc_new w _, fun j hj => by
    obtain rfl : j = 0 := by simpa using hj
    rfl⟩⟩
theorem PW.keep {D : Nat} {L : List (Nat × Nat)} (h : PW W D v L) (hk : KeepW W W') : PW W' D v L := by
  obtain ⟨KC, h1, h2, h3⟩ := h
  refine ⟨KC, h1, ⟨h2.1, ?_⟩, fun j p hp => ?_⟩
  · rcases h2.2 with h | ⟨g, cap, cur, e, hg, hh, r⟩
    · exact .inl h
    · exact .inr ⟨g, cap, cur, e, hg, hk g cur _ hh (by decide), r⟩
  · obtain ⟨b, e1, e2⟩ := h3 j p hp
    exact ⟨b, e1, hk b _ _ e2 (by decide)⟩
theorem NV.keepW {D : Nat} {xs : List N4} (h : NV W D v xs) (hk : KeepW W W') : NV W' D v xs := by
  refine ⟨h.1, ?_⟩
  rcases h.2 with h | ⟨g, cap, cur, e, hg, hh, r⟩
  · exact .inl h
  · exact .inr ⟨g, cap, cur, e, hg, hk g cur _ hh (by decide), r⟩
end
/-- A ways' block. -/
def Wc (W : World) (g : Nat) (n : Bool) (f s q : Value) (k : Nat) : Prop := W.heap[g]? = some (Obj.cells #[.bool n, f, s, q, .int .i64 (k : Int)] 79 (0, 0))
theorem Wc.all {W : World} {g : Nat} {n : Bool} {f s q : Value} {k : Nat} (h : Wc W g n f s q k) : (W.cell? ⟨g, 0, none⟩ = some (.bool n) ∧ W.cell? ⟨g, 1, none⟩ = some f ∧ W.cell? ⟨g, 2, none⟩ = some s ∧ W.cell? ⟨g, 3, none⟩ = some q ∧ W.cell? ⟨g, 4, none⟩ = some (.int .i64 (k : Int))) ∧
    W.frozen? ⟨g, 0, none⟩ = false ∧ W.frozen? ⟨g, 1, none⟩ = false ∧ W.frozen? ⟨g, 2, none⟩ = false ∧ W.frozen? ⟨g, 3, none⟩ = false ∧ W.frozen? ⟨g, 4, none⟩ = false := by
  have h : W.heap[g]? = some (Obj.cells #[.bool n, f, s, q, .int .i64 (k : Int)] 79 (0, 0)) := h
  exact ⟨⟨by rw [Lib.cell_of_heap h]; rfl, by rw [Lib.cell_of_heap h]; rfl, by rw [Lib.cell_of_heap h]; rfl, by rw [Lib.cell_of_heap h]; rfl, by rw [Lib.cell_of_heap h]; rfl⟩, Lib.frozen_of_heap h 0, Lib.frozen_of_heap h 1, Lib.frozen_of_heap h 2, Lib.frozen_of_heap h 3, Lib.frozen_of_heap h 4⟩
theorem Wc.lt {W : World} {g : Nat} {n : Bool} {f s q : Value} {k : Nat} (h : Wc W g n f s q k) : g < W.heap.size := (Array.getElem?_eq_some_iff.1 h).1
theorem Wc.below {W W' : World} {g B : Nat} {n : Bool} {f s q : Value} {k : Nat} (h : Wc W g n f s q k) (hb : Below B W W') (hB : g < B) : Wc W' g n f s q k := (hb.block g hB).trans h
theorem set5 {w : World} {g : Nat} {a b c d e x y z u r : Value} {t : TypeId} (h : w.heap[g]? = some (.cells #[a, b, c, d, e] t)) : (((((w.setCell ⟨g, 0, none⟩ x).setCell ⟨g, 1, none⟩ y).setCell ⟨g, 2, none⟩ z).setCell ⟨g, 3, none⟩ u).setCell ⟨g, 4, none⟩ r).heap[g]? = some (.cells #[x, y, z, u, r] t) := by
  simp [World.setCell, Array.getElem?_modify, h]
theorem below_set5 {w w4 : World} {B g : Nat} (h : Below B w w4) (hg : B ≤ g) (x y z u r : Value) : Below B w (((((w4.setCell ⟨g, 0, none⟩ x).setCell ⟨g, 1, none⟩ y).setCell ⟨g, 2, none⟩ z).setCell ⟨g, 3, none⟩ u).setCell ⟨g, 4, none⟩ r) :=
  ((((h.setCell (p := ⟨g, 0, none⟩) hg _).setCell (p := ⟨g, 1, none⟩) hg _).setCell (p := ⟨g, 2, none⟩) hg _).setCell (p := ⟨g, 3, none⟩) hg _).setCell (p := ⟨g, 4, none⟩) hg _
theorem keep_set5 {w : World} {g : Nat} {a b c d e : Value} (h : w.heap[g]? = some (.cells #[a, b, c, d, e] 79)) (x y z u r : Value) : KeepW w (((((w.setCell ⟨g, 0, none⟩ x).setCell ⟨g, 1, none⟩ y).setCell ⟨g, 2, none⟩ z).setCell ⟨g, 3, none⟩ u).setCell ⟨g, 4, none⟩ r) := fun k cu t hk ht => by
  have hne : k ≠ g := fun e => by
    subst e
    rw [hk] at h
    injection h with h; injection h with _ h _
    exact ht h
  exact (Below.heap_setCell _ _ _ _ hne).trans ((Below.heap_setCell _ _ _ _ hne).trans ((Below.heap_setCell _ _ _ _ hne).trans ((Below.heap_setCell _ _ _ _ hne).trans ((Below.heap_setCell _ _ _ _ hne).trans hk))))
abbrev wz : Obj := .cells #[.bool false, .slice none 0 0, .slice none 0 0, .slice none 0 0, .int .i64 0] 79
abbrev wAgg (n : Bool) (f s q : Value) (k : Nat) : Value := .agg #[.bool n, f, s, q, .int .i64 (k : Int)]
abbrev ndObj (x : N4) : Obj := .cells #[.int .i64 x.k, .int .u8 (x.c.toNat : Int), .int .i64 (x.l : Int), .int .i64 (x.r : Int)] 77
def WaysC (t : Rt) : Prop := ∀ (xs : List N4) (v : Value) (l : List UInt8) (b : Bool) (tp k a : Nat) (w : World), NV w 0 v xs → RepR xs t k → nR t ≤ 12 → ndR t ≤ 60 → a + nR t ≤ 1000 →
  Calls Tryz.prog 40 #[PV v l b tp, .int .i64 (k : Int), .int .i64 (a : Int)] w fun e w' => (∃ f s q, e = .returned (wAgg (nuR t) f s q (nR t)) ∧ IW w' f (fsR t a) ∧ IW w' s (lsR t a) ∧ PW w' 0 q (prR t a)) ∧ Below w.heap.size w w'
set_option maxRecDepth 100000 in
set_option maxHeartbeats 4000000 in
theorem ways_emp : WaysC .emp := by
  intro xs v l b tp k a w hv hr _ _ _
  have HE : Hid (nuR Rt.emp = true ∧ nR Rt.emp = 0 ∧ fsR Rt.emp a = [] ∧ lsR Rt.emp a = [] ∧ prR Rt.emp a = []) := Lib.hid ⟨rfl, rfl, rfl, rfl, rfl⟩
  generalize nuR Rt.emp = zu at *
  generalize nR Rt.emp = zn at *
  generalize fsR Rt.emp a = zf at *
  generalize lsR Rt.emp a = zl at *
  generalize prR Rt.emp a = zp at *
  have hx : xs[k]? = some ⟨0, 0, 0, 0⟩ := hr
  clear hr
  obtain ⟨g, c, rfl, hg, hk, n0, n1, n2, n3⟩ := nv_node hv hx
  obtain ⟨h1, h2, h3, hz, hB⟩ := alloc3_1 w (pObj (.slice (some ⟨g, 0, none⟩) xs.length c) l b tp) wz (ndObj ⟨0, 0, 0, 0⟩)
  have p1 : (0 : Int) ≤ (k : Int) := by omega
  have p2 : (k : Int) < (xs.length : Int) := by omega
  have HB := Lib.hid hB; have H2 := Lib.hid h2
  obtain ⟨d0, d1, d2, d3, _, _, _, _⟩ := four_at h3
  clear h1 h2 h3 hB hv hz
  go_enter Tryz.func40, Tryz.ntmps40
  go_wp2_with fail
  obtain ⟨_, q2, _, _, qB⟩ := alloc3_1 w (pObj (.slice (some ⟨g, 0, none⟩) xs.length c) l b tp) (.cells #[.bool true, .slice none 0 0, .slice none 0 0, .slice none 0 0, .int .i64 0] 79) (.cells #[.int .i64 0, .int .u8 0, .int .i64 0, .int .i64 0] 77)
  refine bodyPost_ret (res_cell1 rfl _ _ (w.heap.size + 1) 79 _ (0, 0) _ rfl q2 Tryz.underlying79 rfl (by kernel_rfl)) rfl ?_
  obtain ⟨rfl, rfl, rfl, rfl, rfl⟩ := HE.out
  exact ⟨⟨.slice none 0 0, .slice none 0 0, .slice none 0 0, rfl, IW.nil _, IW.nil _, PW.nil _ _⟩, qB⟩
set_option maxRecDepth 100000 in
set_option maxHeartbeats 4000000 in
theorem ways_sgn (d : UInt8) : WaysC (.sgn d) := by
  intro xs v l b tp k a w hv hr _ _ _
  have HE : Hid (nuR (Rt.sgn d) = false ∧ nR (Rt.sgn d) = 1 ∧ fsR (Rt.sgn d) a = [a] ∧ lsR (Rt.sgn d) a = [a] ∧ prR (Rt.sgn d) a = []) := Lib.hid ⟨rfl, rfl, rfl, rfl, rfl⟩
  generalize nuR (Rt.sgn d) = zu at *
  generalize nR (Rt.sgn d) = zn at *
  generalize fsR (Rt.sgn d) a = zf at *
  generalize lsR (Rt.sgn d) a = zl at *
  generalize prR (Rt.sgn d) a = zp at *
  have hx : xs[k]? = some ⟨1, d, 0, 0⟩ := hr
  clear hr
  obtain ⟨g, c, rfl, hg, hk, n0, n1, n2, n3⟩ := nv_node hv hx
  obtain ⟨h1, h2, h3, hz, hB⟩ := alloc3_1 w (pObj (.slice (some ⟨g, 0, none⟩) xs.length c) l b tp) wz (ndObj ⟨1, d, 0, 0⟩)
  have p1 : (0 : Int) ≤ (k : Int) := by omega
  have p2 : (k : Int) < (xs.length : Int) := by omega
  have HB := Lib.hid hB; have H2 := Lib.hid h2; have HZ := Lib.hid hz
  obtain ⟨d0, d1, d2, d3, _, _, _, _⟩ := four_at h3
  clear h1 h2 h3 hB hv hz
  go_enter Tryz.func40, Tryz.ntmps40
  go_upto_region 4 with fail
  generalize ((w.alloc (pObj (.slice (some ⟨g, 0, none⟩) xs.length c) l b tp)).alloc wz).alloc (ndObj ⟨1, d, 0, 0⟩) = W at *
  have i1 := IW.one W a
  have i2 := IW.one (W.alloc (.cells #[.int .i64 (a : Int)] 3)) a
  have HB2 := Lib.hid ((HB.out.alloc HB.out.size (.cells #[.int .i64 (a : Int)] 3)).alloc (by simp; have := HB.out.size; omega) (.cells #[.int .i64 (a : Int)] 3))
  have HI := Lib.hid (And.intro (i1.keep (KeepW.of ((Below.refl (W.alloc (.cells #[.int .i64 (a : Int)] 3)).heap.size _).alloc (Nat.le_refl _) (.cells #[.int .i64 (a : Int)] 3)) (Nat.le_refl _))) i2)
  have H4 : Hid (((W.alloc (.cells #[.int .i64 (a : Int)] 3)).alloc (.cells #[.int .i64 (a : Int)] 3)).heap[w.heap.size + 1]? = some wz) := Lib.hid (by
    have hz := HZ.out
    rw [Lib.alloc_old _ _ _ (by simp; omega), Lib.alloc_old _ _ _ (by omega)]
    exact H2.out)
  clear i1 i2
  have hwc : Wc ((W.alloc (.cells #[.int .i64 (a : Int)] 3)).alloc (.cells #[.int .i64 (a : Int)] 3)) (w.heap.size + 1) false (.slice none 0 0) (.slice none 0 0) (.slice none 0 0) 0 := H4.out
  obtain ⟨⟨_, _, _, _, _⟩, _, _, _, _, _⟩ := hwc.all
  go_wp2_with fail
  refine bodyPost_ret (res_cell1 rfl _ _ (w.heap.size + 1) 79 _ (0, 0) _ rfl (set5 H4.out) Tryz.underlying79 rfl (by kernel_rfl)) rfl ?_
  obtain ⟨rfl, rfl, rfl, rfl, rfl⟩ := HE.out
  have hk5 := keep_set5 H4.out
  refine ⟨⟨.slice (some ⟨W.heap.size, 0, none⟩) 1 1, .slice (some ⟨W.heap.size + 1, 0, none⟩) 1 1, .slice none 0 0, rfl, HI.out.1.keep (hk5 _ _ _ _ _), ?_, PW.nil _ _⟩, below_set5 HB2.out (by omega) _ _ _ _ _⟩
  have h := HI.out.2
  rw [World.size_alloc] at h
  exact h.keep (hk5 _ _ _ _ _)
end Go.Proofs.YtchhbnnpannnhaaGreatDoor

namespace Go.Proofs.YtchhbnnpannnhaaGreatDoor
open Go.RowKit IntWalk Go.Maps
set_option linter.unusedSimpArgs false
set_option linter.unusedVariables false
attribute [local go_sem] byte_at str_app

section
variable {W : World} {g : Nat} {n n' : Bool} {f s q u : Value} {k k' : Nat}
theorem Wc.set0 (h : Wc W g n f s q k) : Wc (W.setCell ⟨g, 0, none⟩ (.bool n')) g n' f s q k := by
  unfold Wc at *; simp [World.setCell, Array.getElem?_modify, h]
theorem Wc.set1 (h : Wc W g n f s q k) : Wc (W.setCell ⟨g, 1, none⟩ u) g n u s q k := by
  unfold Wc at *; simp [World.setCell, Array.getElem?_modify, h]
theorem Wc.set2 (h : Wc W g n f s q k) : Wc (W.setCell ⟨g, 2, none⟩ u) g n f u q k := by
  unfold Wc at *; simp [World.setCell, Array.getElem?_modify, h]
theorem Wc.set3 (h : Wc W g n f s q k) : Wc (W.setCell ⟨g, 3, none⟩ u) g n f s u k := by
  unfold Wc at *; simp [World.setCell, Array.getElem?_modify, h]
theorem Wc.set4 (h : Wc W g n f s q k) : Wc (W.setCell ⟨g, 4, none⟩ (.int .i64 (k' : Int))) g n f s q k' := by
  unfold Wc at *; simp [World.setCell, Array.getElem?_modify, h]
theorem Wc.far {b i : Nat} (h : Wc W g n f s q k) (hne : g ≠ b) : Wc (W.setCell ⟨b, i, none⟩ u) g n f s q k := (Below.heap_setCell _ _ _ _ hne).trans h
theorem Wc.new (W : World) : Wc (W.alloc (.cells #[.bool n, f, s, q, .int .i64 (k : Int)] 79)) W.heap.size n f s q k := heap_alloc_new W _
end
theorem szset (W : World) (p : Addr) (v : Value) : (W.setCell p v).heap.size = W.heap.size := by simp [World.setCell]
set_option maxRecDepth 100000 in
set_option maxHeartbeats 8000000 in
theorem ways_str (tl : Rt) (h1 : WaysC tl) : WaysC (.str tl) := by
  intro xs v l b tp k a w hv hr hn12 hd60 ha
  have hnl : nR tl ≤ 12 := hn12
  have hdl : ndR tl ≤ 60 := by have e : ndR (.str tl) = ndR tl + 1 := rfl; omega
  have hal : a + nR tl ≤ 1000 := ha
  obtain ⟨ka, hx, hra⟩ := hr
  have HE : Hid (nuR (.str tl) = true ∧ nR (.str tl) = nR tl ∧ fsR (.str tl) a = fsR tl a ∧ lsR (.str tl) a = lsR tl a ∧ prR (.str tl) a = prR tl a ++ crs (lsR tl a) (fsR tl a)) := Lib.hid ⟨rfl, rfl, rfl, rfl, rfl⟩
  have HLN : Hid ((fsR tl a).length ≤ 12 ∧ (lsR tl a).length ≤ 12 ∧ (prR tl a).length ≤ 20000) := Lib.hid ⟨Nat.le_trans (fs_lenR _ _) hnl, Nat.le_trans (ls_lenR _ _) hnl, by
    have h1 := pr_lenR tl a 12 hnl
    have h2 : ndR tl * (12 * 12) ≤ 60 * (12 * 12) := Nat.mul_le_mul_right _ hdl
    omega⟩
  obtain ⟨g, c, rfl, hg, hk, n0, n1, n2, n3⟩ := nv_node hv hx
  have HL := Lib.hid (fun W (h : NV W 0 (.slice (some ⟨g, 0, none⟩) xs.length c) xs) => h1 xs _ l b tp ka a W h hra hnl hdl hal)
  clear h1 hra hn12 hd60 ha hal hdl hx
  generalize nuR (.str tl) = zu at *
  generalize nR (.str tl) = zn at *
  generalize fsR (.str tl) a = zf at *
  generalize lsR (.str tl) a = zl at *
  generalize prR (.str tl) a = zp at *
  generalize nuR tl = nu at *
  generalize nR tl = nn at *
  generalize fsR tl a = FSs at *
  generalize lsR tl a = LS at *
  generalize prR tl a = PR at *
  obtain ⟨q1, q2, q3, qz, qB⟩ := alloc3_1 w (pObj (.slice (some ⟨g, 0, none⟩) xs.length c) l b tp) wz (.cells #[.int .i64 4, .int .u8 0, .int .i64 (ka : Int), .int .i64 0] 77)
  have p1 : (0 : Int) ≤ (k : Int) := by omega
  have p2 : (k : Int) < (xs.length : Int) := by omega
  have HB := Lib.hid qB
  have HNV := Lib.hid (hv.keep qB (Nat.le_refl _))
  have HP := Lib.hid q1; have HZ := Lib.hid q2; have HN := Lib.hid q3; have HSZ := Lib.hid qz
  clear qB hv q1 q2 q3 qz
  go_enter Tryz.func40, Tryz.ntmps40
  go_upto_region 6 with fail
  clear n0 n1 n2 n3
  generalize ((w.alloc (pObj (.slice (some ⟨g, 0, none⟩) xs.length c) l b tp)).alloc wz).alloc (.cells #[.int .i64 4, .int .u8 0, .int .i64 (ka : Int), .int .i64 0] 77) = W at *
  obtain ⟨a0, a1, a2, a3, _, _, _, _⟩ := four_at HP.out
  obtain ⟨d0, d1, d2, d3, _, _, _, _⟩ := four_at HN.out
  have HLs := Lib.hid (HL.out W HNV.out)
  go_wp2_with fail
  refine HLs.out.mono ?_
  rintro e w1 ⟨⟨f, s, q, rfl, hf, hs, hq⟩, hb1⟩
  have hz := HSZ.out
  have hz1 := hb1.size
  have HB1 := Lib.hid (HB.out.trans (hb1.mono HB.out.size))
  have HN1 := Lib.hid ((hb1.block (w.heap.size + 1 + 1) (by omega)).trans HN.out)
  have HZ1 := Lib.hid ((hb1.block (w.heap.size + 1) (by omega)).trans HZ.out)
  obtain ⟨Af, cf, rfl⟩ := hf.shape
  obtain ⟨As, cs, rfl⟩ := hs.shape
  obtain ⟨Aq, cq, rfl⟩ := hq.shape
  have HF := Lib.hid hf; have HS := Lib.hid hs; have HQ := Lib.hid hq
  clear hf hs hq hb1 HLs HL a0 a1 a2 a3 d0 d1 d2 d3 HNV HP HN HZ HB
  go_upto_region 7 with fail
  have hba := (Below.refl w1.heap.size w1).alloc (Nat.le_refl _) (.cells #[.bool nu, .slice Af FSs.length cf, .slice As LS.length cs, .slice Aq PR.length cq, .int .i64 (nn : Int)] 79)
  have HC2 := Lib.hid (Wc.new (n := nu) (f := .slice Af FSs.length cf) (s := .slice As LS.length cs) (q := .slice Aq PR.length cq) (k := nn) w1)
  have HB2 := Lib.hid (HB1.out.trans (hba.mono HB1.out.size))
  have HK2 := Lib.hid (KeepW.of hba (Nat.le_refl _))
  have HN2 := Lib.hid ((hba.block (w.heap.size + 1 + 1) (by omega)).trans HN1.out)
  have HZ2 := Lib.hid ((hba.block (w.heap.size + 1) (by omega)).trans HZ1.out)
  have HG : Hid (w.heap.size + 1 + 1 < w1.heap.size) := Lib.hid (by omega)
  clear hba
  generalize (w1.alloc (.cells #[.bool nu, .slice Af FSs.length cf, .slice As LS.length cs, .slice Aq PR.length cq, .int .i64 (nn : Int)] 79)) = w2 at *
  generalize w1.heap.size = ga at *
  obtain ⟨⟨c0, c1, c2, c3, c4⟩, f0, f1, f2, f3, f4⟩ := HC2.out.all
  obtain ⟨d0, d1, d2, d3, _, _, _, _⟩ := four_at HN2.out
  have HC3 := Lib.hid (HC2.out.set0 (n' := true))
  have HK3 := Lib.hid (HK2.out.trans (KeepW.set (i := 0) (u := .bool true) HC2.out))
  have HB3 := Lib.hid (HB2.out.setCell (p := ⟨ga, 0, none⟩) (by show w.heap.size ≤ ga; have := HG.out; omega) (.bool true))
  have hz3 := szset w2 ⟨ga, 0, none⟩ (.bool true)
  have HZ3 : Hid ((w2.setCell ⟨ga, 0, none⟩ (.bool true)).heap[w.heap.size + 1]? = some wz) := Lib.hid ((Below.heap_setCell _ _ _ _ (by show w.heap.size + 1 ≠ ga; have := HG.out; omega)).trans HZ2.out)
  have HF3 := Lib.hid (HF.out.keep HK3.out); have HS3 := Lib.hid (HS.out.keep HK3.out); have HQ3 := Lib.hid (HQ.out.keep HK3.out)
  have HL3 : Hid (ga < (w2.setCell ⟨ga, 0, none⟩ (.bool true)).heap.size) := Lib.hid HC3.out.lt
  go_upto_region 9 with fail
  clear hz3 c0 c1 c2 c3 c4 f0 f1 f2 f3 f4 d0 d1 d2 d3 HC2 HK2 HB2 HN2 HZ2 HN1 HZ1 HB1 HF HS HQ HK3
  generalize w2.setCell ⟨ga, 0, none⟩ (.bool true) = w3 at *
  obtain ⟨⟨c0, c1, c2, c3, c4⟩, f0, f1, f2, f3, f4⟩ := HC3.out.all
  have HX := Lib.hid (crossed_any (.slice Aq PR.length cq) As Af LS.length FSs.length cs cf 0 PR LS FSs w3 HQ3.out HS3.out.ints.1 HF3.out.ints.1 HLN.out.2.2 HLN.out.2.1 HLN.out.1)
  go_wp2_with fail
  refine HX.out.mono ?_
  rintro e w4 ⟨⟨q', rfl, hq'⟩, hb4⟩
  obtain ⟨A4, n4, c4', rfl⟩ : ∃ A n c, q' = Value.slice A n c := by obtain ⟨A, c, e⟩ := hq'.shape; exact ⟨A, _, c, e⟩
  have HB4 := Lib.hid (HB3.out.trans (hb4.mono HB3.out.size))
  have HK4 := Lib.hid (KeepW.of hb4 (Nat.le_refl _))
  have HC4 := Lib.hid (HC3.out.below hb4 HL3.out)
  have HZ4 := Lib.hid ((hb4.block (w.heap.size + 1) (by have := HG.out; have := HL3.out; omega)).trans HZ3.out)
  have HQ4 := Lib.hid (hq'.base (Nat.zero_le _))
  clear hq' hb4 HX c0 c1 c2 c3 c4 f0 f1 f2 f3 f4 HC3 HZ3 HB3 HL3
  obtain ⟨⟨c0, c1, c2, c3, c4⟩, f0, f1, f2, f3, f4⟩ := HC4.out.all
  have HC5 := Lib.hid (HC4.out.set3 (u := .slice A4 n4 c4'))
  have HK5 := Lib.hid (KeepW.set (i := 3) (u := .slice A4 n4 c4') HC4.out)
  have HB5 := Lib.hid (HB4.out.setCell (p := ⟨ga, 3, none⟩) (by show w.heap.size ≤ ga; have := HG.out; omega) (.slice A4 n4 c4'))
  have HZ5 : Hid ((w4.setCell ⟨ga, 3, none⟩ (.slice A4 n4 c4')).heap[w.heap.size + 1]? = some wz) := Lib.hid ((Below.heap_setCell _ _ _ _ (by show w.heap.size + 1 ≠ ga; have := HG.out; omega)).trans HZ4.out)
  go_upto_region 10 with fail
  clear c0 c1 c2 c3 c4 f0 f1 f2 f3 f4 HC4 HZ4 HB4
  generalize w4.setCell ⟨ga, 3, none⟩ (.slice A4 n4 c4') = w5 at *
  obtain ⟨⟨c0, c1, c2, c3, c4⟩, f0, f1, f2, f3, f4⟩ := HC5.out.all
  have hzc : Wc w5 (w.heap.size + 1) false (.slice none 0 0) (.slice none 0 0) (.slice none 0 0) 0 := HZ5.out
  obtain ⟨⟨_, _, _, _, _⟩, _, _, _, _, _⟩ := hzc.all
  go_wp2_with fail
  refine bodyPost_ret (res_cell1 rfl _ _ (w.heap.size + 1) 79 _ (0, 0) _ rfl (set5 HZ5.out) Tryz.underlying79 rfl (by kernel_rfl)) rfl ?_
  obtain ⟨rfl, rfl, rfl, rfl, rfl⟩ := HE.out
  have hk6 := keep_set5 HZ5.out
  have hk35 := (HK4.out.trans HK5.out).trans (hk6 (.bool true) (.slice Af zf.length cf) (.slice As zl.length cs) (.slice A4 n4 c4') (.int .i64 (zn : Int)))
  refine ⟨⟨.slice Af zf.length cf, .slice As zl.length cs, .slice A4 n4 c4', rfl, HF3.out.keep hk35, HS3.out.keep hk35, HQ4.out.keep (HK5.out.trans (hk6 _ _ _ _ _))⟩, below_set5 HB5.out (by omega) _ _ _ _ _⟩
end Go.Proofs.YtchhbnnpannnhaaGreatDoor

namespace Go.Proofs.YtchhbnnpannnhaaGreatDoor
open Go.RowKit IntWalk Go.Maps
set_option linter.unusedSimpArgs false
set_option linter.unusedVariables false
attribute [local go_sem] byte_at str_app

/-- All blocks of numbers stay. -/
def KeepI (W W' : World) : Prop := ∀ (k : Nat) (cu : Array Value), W.heap[k]? = some (Obj.cells cu 3 (0, 0)) → W'.heap[k]? = some (Obj.cells cu 3 (0, 0))
section
variable {W W' W2 : World} {v : Value} {L : List Nat}
theorem KeepW.int (h : KeepW W W') : KeepI W W' := fun k cu hk => h k cu _ hk (by decide)
theorem KeepI.trans (h : KeepI W W') (h2 : KeepI W' W2) : KeepI W W2 := fun k cu hk => h2 k cu (h k cu hk)
theorem KeepI.grown {row : Option Nat} (hg : W.grownBy W' row) (hr : ∀ k, row = some k → ∃ cs, W.heap[k]? = some (.cells cs 44 (0, 0))) : KeepI W W' := fun k cu hk => by
  refine (hg.block k (Array.getElem?_eq_some_iff.1 hk).1 fun e => ?_).trans hk
  obtain ⟨cs, hc⟩ := hr k e.symm
  rw [hk] at hc
  injection hc with hc; injection hc with _ hc _
  exact absurd hc (by decide)
theorem IW.keepI (h : IW W v L) (hk : KeepI W W') : IW W' v L := by
  obtain ⟨A, c, e, h2⟩ := h
  refine ⟨A, c, e, fun hn => ?_⟩
  obtain ⟨b, off, cu, e1, e2, e3⟩ := h2 hn
  exact ⟨b, off, cu, e1, hk b cu e2, e3⟩
theorem PW.cells {D n c : Nat} {A : Option Addr} {L : List (Nat × Nat)} (h : PW W D (.slice A n c) L) : ∃ KC, KC.length = L.length ∧ Cs W A n KC ∧ PWc W KC L ∧ ∀ u ∈ KC, u.oneCell' = true := by
  obtain ⟨KC, h1, h2, h3⟩ := h
  obtain ⟨A', c', e, hc⟩ := own_cs h2
  injection e with e1 e2 e3
  subst e1 e2 e3
  exact ⟨KC, h1, hc, h3, h3.one h1⟩
end
/-- What ways has in memory: the two ways below, and the one that is being made. -/
structure WT (w0 : World) (ga gb gw : Nat) (AF AS AQ BF BS BQ : Value) (FSs LS GS MS : List Nat) (nu mu : Bool) (nn mm kk : Nat) (n : Bool) (f s q : Value) (W : World) : Prop where
  a : Wc W ga nu AF AS AQ nn
  b : Wc W gb mu BF BS BQ mm
  w : Wc W gw n f s q kk
  z : W.heap[w0.heap.size + 1]? = some wz
  bl : Below w0.heap.size w0 W
  fa : IW W AF FSs
  sa : IW W AS LS
  fb : IW W BF GS
  sb : IW W BS MS
  lt : w0.heap.size + 1 + 1 < ga ∧ ga < gb ∧ gb < gw
section
variable {w0 W W' : World} {ga gb gw : Nat} {AF AS AQ BF BS BQ : Value} {FSs LS GS MS : List Nat} {nu mu n n' : Bool} {nn mm kk : Nat} {f s q u : Value}
theorem WT.far (h : WT w0 ga gb gw AF AS AQ BF BS BQ FSs LS GS MS nu mu nn mm kk n f s q W) (i : Nat) (u : Value) {n' : Bool} {f' s' q' : Value} (hw : Wc (W.setCell ⟨gw, i, none⟩ u) gw n' f' s' q' kk) : WT w0 ga gb gw AF AS AQ BF BS BQ FSs LS GS MS nu mu nn mm kk n' f' s' q' (W.setCell ⟨gw, i, none⟩ u) := by
  have hl := h.lt
  have hk := KeepW.set (i := i) (u := u) h.w
  exact ⟨h.a.far (by omega), h.b.far (by omega), hw, (Below.heap_setCell _ _ _ _ (by show w0.heap.size + 1 ≠ gw; omega)).trans h.z, h.bl.setCell (p := ⟨gw, i, none⟩) (by show w0.heap.size ≤ gw; omega) u, h.fa.keep hk, h.sa.keep hk, h.fb.keep hk, h.sb.keep hk, hl⟩
theorem WT.set0 (h : WT w0 ga gb gw AF AS AQ BF BS BQ FSs LS GS MS nu mu nn mm kk n f s q W) : WT w0 ga gb gw AF AS AQ BF BS BQ FSs LS GS MS nu mu nn mm kk n' f s q (W.setCell ⟨gw, 0, none⟩ (.bool n')) := h.far 0 _ h.w.set0
theorem WT.set1 (h : WT w0 ga gb gw AF AS AQ BF BS BQ FSs LS GS MS nu mu nn mm kk n f s q W) : WT w0 ga gb gw AF AS AQ BF BS BQ FSs LS GS MS nu mu nn mm kk n u s q (W.setCell ⟨gw, 1, none⟩ u) := h.far 1 _ h.w.set1
theorem WT.set2 (h : WT w0 ga gb gw AF AS AQ BF BS BQ FSs LS GS MS nu mu nn mm kk n f s q W) : WT w0 ga gb gw AF AS AQ BF BS BQ FSs LS GS MS nu mu nn mm kk n f u q (W.setCell ⟨gw, 2, none⟩ u) := h.far 2 _ h.w.set2
theorem WT.set3 (h : WT w0 ga gb gw AF AS AQ BF BS BQ FSs LS GS MS nu mu nn mm kk n f s q W) : WT w0 ga gb gw AF AS AQ BF BS BQ FSs LS GS MS nu mu nn mm kk n f s u (W.setCell ⟨gw, 3, none⟩ u) := h.far 3 _ h.w.set3
theorem WT.below (h : WT w0 ga gb gw AF AS AQ BF BS BQ FSs LS GS MS nu mu nn mm kk n f s q W) (hb : Below W.heap.size W W') : WT w0 ga gb gw AF AS AQ BF BS BQ FSs LS GS MS nu mu nn mm kk n f s q W' := by
  have hl := h.lt
  have hw := h.w.lt
  have hk := KeepW.of hb (Nat.le_refl _)
  exact ⟨h.a.below hb (by omega), h.b.below hb (by omega), h.w.below hb hw, (hb.block _ (by omega)).trans h.z, h.bl.trans (hb.mono h.bl.size), h.fa.keep hk, h.sa.keep hk, h.fb.keep hk, h.sb.keep hk, hl⟩
theorem WT.cells (h : WT w0 ga gb gw AF AS AQ BF BS BQ FSs LS GS MS nu mu nn mm kk n f s q W) : (W.cell? ⟨ga, 0, none⟩ = some (.bool nu) ∧ W.cell? ⟨ga, 1, none⟩ = some AF ∧ W.cell? ⟨ga, 2, none⟩ = some AS) ∧ (W.cell? ⟨gb, 0, none⟩ = some (.bool mu) ∧ W.cell? ⟨gb, 1, none⟩ = some BF ∧ W.cell? ⟨gb, 2, none⟩ = some BS) ∧
    (W.cell? ⟨gw, 0, none⟩ = some (.bool n) ∧ W.cell? ⟨gw, 1, none⟩ = some f ∧ W.cell? ⟨gw, 2, none⟩ = some s ∧ W.cell? ⟨gw, 3, none⟩ = some q ∧ W.cell? ⟨gw, 4, none⟩ = some (.int .i64 (kk : Int))) ∧
    (W.frozen? ⟨gw, 0, none⟩ = false ∧ W.frozen? ⟨gw, 1, none⟩ = false ∧ W.frozen? ⟨gw, 2, none⟩ = false ∧ W.frozen? ⟨gw, 3, none⟩ = false) := by
  obtain ⟨⟨a0, a1, a2, _, _⟩, _⟩ := h.a.all
  obtain ⟨⟨b0, b1, b2, _, _⟩, _⟩ := h.b.all
  obtain ⟨c, f0, f1, f2, f3, _⟩ := h.w.all
  exact ⟨⟨a0, a1, a2⟩, ⟨b0, b1, b2⟩, c, f0, f1, f2, f3⟩
end
set_option maxHeartbeats 2000000 in
/-- The document's join. -/
theorem joinW_any (A A2 : Option Addr) (n m c c2 : Nat) (L L2 : List Nat) (w : World) (h : IW w (.slice A n c) L) (h2 : IW w (.slice A2 m c2) L2) (hn : L.length + L2.length ≤ 1000) :
    Calls Tryz.prog 25 #[.slice A n c, .slice A2 m c2] w fun e w' => (∃ v', e = .returned v' ∧ IW w' v' (L ++ L2)) ∧ Below w.heap.size w w' := by
  obtain ⟨h, rfl⟩ := h.ints
  obtain ⟨h2, rfl⟩ := h2.ints
  have H1 := Lib.hid h; have H2 := Lib.hid h2
  clear h h2
  go_enter Tryz.func25, Tryz.ntmps25
  go_wp2_with (first
    | (at_builtin; refine wpList_append_row rfl (.tmp 6) (.tmp 7) rfl w.heap.size (.slice none 0 0) [] L rfl (World.ownsRow_nil _ _ _ _) A _ c w.heap.size rfl H1.out (by simp; omega) (Nat.le_refl _) ?_; intro v1 w1 hown1 hgr1 hb1; rw [List.nil_append] at hown1)
    | (at_builtin; refine wpList_append_row rfl (.tmp 9) (.tmp 10) rfl w.heap.size v1 L L2 rfl hown1 A2 _ c2 w.heap.size rfl (H2.out.below hb1) (by omega) hb1.size ?_; intro v2 w2 hown2 hgr2 hb2))
  go_ret
  exact ⟨⟨_, rfl, IW.own hown2⟩, hb1.trans hb2⟩
end Go.Proofs.YtchhbnnpannnhaaGreatDoor
