/- The law NfaSays: its walk. Condition: errors.errorType. -/
import Derived.Test.YtchhbnnpannnhaaDoorNfPl
import Derived.Test.YtchhbnnpannnhaaDoorNfN
import Derived.Test.YtchhbnnpannnhaaDoorNfK
import Derived.Test.YtchhbnnpannnhaaDoorNfV
import Derived.Test.YtchhbnnpannnhaaDoorRegSa
namespace Go.Proofs.YtchhbnnpannnhaaDoor
open Go.RowKit Go.Lib IntWalk Go.Maps
set_option linter.unusedSimpArgs false
set_option linter.unusedVariables false
attribute [local go_sem] byte_at str_app

theorem srt_iff {n : Nat} {L M : List Nat} (h : ∀ i, i ∈ L ↔ i ∈ M) : srt n L = srt n M := by
  unfold srt
  congr 1
  funext j
  rw [decide_eq_decide]
  exact h j
theorem nx_iff {n i : Nat} {t : Pt} {P : List (Nat × Nat)} (h : ∀ i j, (i, j) ∈ prP t ↔ (i, j) ∈ P) : srt n (nxA P i) = nxN n t i := by
  unfold srt nxN
  congr 1
  funext j
  rw [decide_eq_decide, h]
  unfold nxA
  rw [List.mem_map]
  constructor
  · rintro ⟨⟨a, b⟩, hp, rfl⟩
    rw [List.mem_filter, decide_eq_true_eq] at hp
    obtain ⟨h1, h2⟩ := hp
    have h2 : a = i := h2
    subst h2
    exact h1
  · intro hp
    exact ⟨(i, j), List.mem_filter.2 ⟨hp, by simp⟩, rfl⟩
theorem nxR_iff {n : Nat} {t : Pt} {P : List (Nat × Nat)} (h : ∀ i j, (i, j) ∈ prP t ↔ (i, j) ∈ P) : (nxR P n).map zs = nxL n t := by
  unfold nxR nxL
  rw [List.map_map]
  refine List.map_congr_left fun i _ => ?_
  exact congrArg zs (nx_iff h)
theorem ro_le {n : Nat} {t : Pt} {i : Nat} (h : n ≤ 12) : (ro (nxL n t) i).length ≤ 100000 := by
  rcases Nat.lt_or_ge i n with hi | hi
  · rw [ro_nxL hi]
    have : (nxN n t i).length ≤ n := by unfold nxN; exact Nat.le_trans (List.length_filter_le _ _) (by simp)
    simp only [zs, List.length_map]; omega
  · unfold ro nxL
    rw [List.getElem?_eq_none (by simpa using hi)]; simp
theorem Rws.nilS (w : World) (B : Nat) : Rws w B none 0 [] := ⟨rfl, fun h => absurd h (by omega)⟩
theorem match_short {p s : List UInt8} {t : Pt} {rt : Rt} (he : parsE p = 0) (ht : par p = some t) (hr : Rel rt t) (h8 : s.length ≤ 8) : matchV p s = mt rt s ∧ matchE p s = 0 := by
  have e0 : matchE p s = 0 := by unfold matchE; rw [if_neg (by simp [he]), if_neg (by omega)]
  refine ⟨?_, e0⟩
  unfold matchV
  rw [e0, ht]
  show (true && mtch t s) = _
  unfold mtch
  by_cases h : s = []
  · rw [if_pos h, h, mt_nul hr]; rfl
  · rw [if_neg h, simP_mt ht hr h]; rfl
theorem match_long {p s : List UInt8} (he : parsE p = 0) (h8 : 8 < s.length) : matchV p s = false ∧ matchE p s = 4 := by
  have e0 : matchE p s = 4 := by unfold matchE; rw [if_neg (by simp [he]), if_pos h8]
  refine ⟨?_, e0⟩
  unfold matchV
  rw [e0]; rfl
theorem match_bad {p s : List UInt8} (he : parsE p ≠ 0) : matchV p s = false ∧ matchE p s = parsE p := by
  have e0 : matchE p s = parsE p := by unfold matchE; rw [if_pos he]
  refine ⟨?_, e0⟩
  unfold matchV
  rw [e0]
  simp [he]
set_option maxRecDepth 100000 in
set_option maxHeartbeats 8000000 in
theorem nsays_bad (w : World) (p s : List UInt8) (h9 : p.length ≤ 9223372036854775807) (hs9 : s.length ≤ 9223372036854775807) (hg : HG w) (he : parsE p ≠ 0) :
    Calls Tryd.prog 3 #[S p, S s] w fun e w' => e = .returned (.bool true) ∧ Below w.heap.size w w' := by
  have HG0 := Lib.hid hg
  obtain ⟨hV, hE⟩ := match_bad (s := s) he
  generalize hk : parsE p = k at *
  have HR : Hid (Calls Tryd.prog 4 #[S p] w fun e w' => e = .returned (.tuple #[PV (.slice none 0 0) [] false 0, .int .i64 k]) ∧ Below w.heap.size w w') := Lib.hid ((readR_any p w h9).mono fun e w' h => by
    refine ⟨?_, h.2⟩
    rcases h.1 with ⟨k', _, h4, h2, e1⟩ | ⟨h12, rt, _, _, _, hrt, _⟩
    · rw [e1, ← bad_e h4 h2, hk]
    · exact absurd (hk ▸ (good_e h12 hrt).1) he)
  have HO : Hid (∀ W, Calls Tryd.prog 6 #[S p] W fun e w' => e = .returned (.tuple #[.slice none 0 0, .slice none 0 0, .slice none 0 0, errV k]) ∧ Below W.heap.size W w') := Lib.hid fun W => (ofR_any p W h9).mono fun e w' h => by
    refine ⟨?_, h.2⟩
    rcases h.1 with ⟨_, e1⟩ | ⟨_, _, _, _, _, _, _, h0, _⟩
    · rw [e1, hk]
    · exact absurd (hk ▸ h0) he
  have HM : Hid (∀ W, Calls Tryd.prog 10 #[S p, S s] W fun e w' => e = .returned (.tuple #[.bool false, errV k]) ∧ Below W.heap.size W w') := Lib.hid fun W => by have := match_any p s W h9 hs9; rwa [hV, hE] at this
  have HE : Hid (∀ W, HG W → Calls Tryd.prog 7 #[errV k, .int .i64 k] W fun e w' => e = .returned (.bool true) ∧ Below W.heap.size W w') := Lib.hid fun W h => (error_any k k W h).mono fun e w' h => ⟨by rw [h.1]; simp, h.2⟩
  have HI : Hid (∀ W, Calls Tryd.prog 8 #[.slice none 0 0, .slice none 0 0] W fun e w' => e = .returned (.bool true) ∧ Below W.heap.size W w') := Lib.hid fun W => (smI_any none none 0 0 0 0 W.heap.size [] [] W (Ints.nil_ _ _ _) (Ints.nil_ _ _ _) (by omega)).mono fun e w' h => by
    obtain ⟨rfl, q, rfl⟩ := h
    exact ⟨rfl, below_drewN (Below.refl _ _) q⟩
  have HX : Hid (∀ W, Calls Tryd.prog 9 #[.slice none 0 0, .slice none 0 0] W fun e w' => e = .returned (.bool true) ∧ Below W.heap.size W w') := Lib.hid fun W => (smR_any none none 0 0 0 0 W.heap.size [] [] W (Rws.nilS _ _) (Rws.nilS _ _) (by omega) (fun i hi => absurd hi (by omega))).mono fun e w' h => by
    obtain ⟨rfl, q, rfl⟩ := h
    exact ⟨rfl, below_drewN (Below.refl _ _) q⟩
  have q1 : (k == 0) = false := by simpa using he
  generalize errV k = ev at *
  clear hg h9 hs9 hk hV hE
  go_enter Tryd.func3, Tryd.ntmps3
  go_wp2_with fail
  refine HR.out.mono ?_
  rintro e w1 ⟨rfl, hb1⟩
  have HA1 := Lib.hid (hb1.alloc hb1.size (pObj (.slice none 0 0) [] false 0))
  clear hb1 HR
  go_wp2_with fail
  refine (HO.out _).mono ?_
  rintro e w2 ⟨rfl, hb2⟩
  have HB2 := Lib.hid (HA1.out.trans (hb2.mono HA1.out.size))
  have HE2 := Lib.hid (HE.out _ (HG0.out.below HB2.out (Nat.le_refl _)))
  clear hb2 HO HA1
  go_wp2_with fail
  refine HE2.out.mono ?_
  rintro e w3 ⟨rfl, hb3⟩
  have HB3 := Lib.hid (HB2.out.trans (hb3.mono HB2.out.size))
  clear hb3 HB2 HE2
  go_wp2_with fail
  refine (HI.out _).mono ?_
  rintro e w4 ⟨rfl, hb4⟩
  have HB4 := Lib.hid (HB3.out.trans (hb4.mono HB3.out.size))
  clear hb4 HB3
  go_wp2_with fail
  refine (HI.out _).mono ?_
  rintro e w5 ⟨rfl, hb5⟩
  have HB5 := Lib.hid (HB4.out.trans (hb5.mono HB4.out.size))
  clear hb5 HB4 HI
  go_wp2_with fail
  refine (HX.out _).mono ?_
  rintro e w6 ⟨rfl, hb6⟩
  have HB6 := Lib.hid (HB5.out.trans (hb6.mono HB5.out.size))
  clear hb6 HB5 HX
  go_wp2_with fail
  refine (HM.out _).mono ?_
  rintro e w7 ⟨rfl, hb7⟩
  have HB7 := Lib.hid (HB6.out.trans (hb7.mono HB6.out.size))
  have HE7 := Lib.hid (HE.out _ (HG0.out.below HB7.out (Nat.le_refl _)))
  clear hb7 HB6 HM
  go_wp2_with fail
  refine HE7.out.mono ?_
  rintro e w8 ⟨rfl, hb8⟩
  have HB8 := Lib.hid (HB7.out.trans (hb8.mono HB7.out.size))
  clear hb8 HB7 HE7
  go_wp2_with fail
  go_ret
  exact ⟨rfl, HB8.out⟩
set_option maxRecDepth 100000 in
set_option maxHeartbeats 8000000 in
theorem nsays_good (w : World) (p s : List UInt8) (hs9 : s.length ≤ 9223372036854775807) (hg : HG w) (he : parsE p = 0) :
    Calls Tryd.prog 3 #[S p, S s] w fun e w' => e = .returned (.bool true) ∧ Below w.heap.size w w' := by
  obtain ⟨h12, t, ht⟩ := parsE_some he
  have h9 : p.length ≤ 9223372036854775807 := by omega
  have HG0 := Lib.hid hg
  obtain ⟨rt, hrt, hrel⟩ := rd_some ht
  obtain ⟨hlv, hnum⟩ := par_leaves ht
  have hN : nR rt = (leaves t).length := by unfold nR; rw [lv_rel hrel]
  have hN12 : (leaves t).length ≤ 12 := by
    rw [hlv]
    have : (lets p).length ≤ p.length := List.length_filter_le _ _
    omega
  have hnd := rd_nd hrt
  obtain ⟨hsf, hsl, hsp⟩ := sets_rel hrel hnum
  have HR : Hid (Calls Tryd.prog 4 #[S p] w fun e w' => (∃ v xs kk, e = .returned (.tuple #[PV v [] false kk, .int .i64 0]) ∧ NV w' 0 v xs ∧ RepR xs rt kk) ∧ Below w.heap.size w w') := Lib.hid ((readR_any p w h9).mono fun e w' h => by
    refine ⟨?_, h.2⟩
    rcases h.1 with ⟨k', hk', h4, h2, e1⟩ | ⟨_, rt', v, xs, kk, hrt', e1, hnv, hrp, _⟩
    · have := (h2 h12).2
      rw [hrt] at this; cases this
    · rw [hrt] at hrt'
      injection hrt' with hrt'
      subst hrt'
      exact ⟨v, xs, kk, e1, hnv, hrp⟩)
  obtain ⟨F, hF⟩ : ∃ F, F = srt (leaves t).length (fsP t) := ⟨_, rfl⟩
  obtain ⟨G, hG⟩ : ∃ G, G = srt (leaves t).length (lsP t) := ⟨_, rfl⟩
  obtain ⟨N, hNN⟩ : ∃ N, N = (leaves t).length := ⟨_, rfl⟩
  obtain ⟨X, hX⟩ : ∃ X, X = nxL N t := ⟨_, rfl⟩
  have hF12 : F.length ≤ 12 := by rw [hF]; exact Nat.le_trans (srt_lenP _ _) hN12
  have hG12 : G.length ≤ 12 := by rw [hG]; exact Nat.le_trans (srt_lenP _ _) hN12
  have HXL : Hid (∀ i, (ro X i).length ≤ 100000) := Lib.hid (fun i => by rw [hX]; exact ro_le (by omega))
  have HP : Hid (∀ W v xs kk, NV W 0 v xs → RepR xs rt kk → Calls Tryd.prog 5 #[PV v [] false kk] W fun e w' => (∃ Af nf cf As ns cs Aq nq cq, e = .returned (.tuple #[.slice Af nf cf, .slice As ns cs, .slice Aq nq cq]) ∧ Ints w' w'.heap.size Af nf (zs F) ∧ Ints w' w'.heap.size As ns (zs G) ∧ Rws w' w'.heap.size Aq nq X) ∧ Below W.heap.size W w') := Lib.hid (fun W v xs kk h1 h2 => (places_any rt xs v [] false kk W h1 h2 (by omega) (by omega)).mono fun e w' h => by
    obtain ⟨⟨f, l, q, rfl, a1, a2, a3⟩, hb⟩ := h
    rw [hN, srt_iff (fun i => (hsf i).symm), ← hF] at a1
    rw [hN, srt_iff (fun i => (hsl i).symm), ← hG] at a2
    rw [hN, ← hNN] at a3
    obtain ⟨Af, cf, rfl⟩ := a1.shape
    obtain ⟨As, cs, rfl⟩ := a2.shape
    obtain ⟨Aq, cq, rfl⟩ := a3.shape
    have a4 := a3.rows
    rw [nxR_iff hsp, ← hX] at a4
    exact ⟨⟨_, _, _, _, _, _, _, _, _, rfl, a1.ints.1, a2.ints.1, a4⟩, hb⟩)
  have HO : Hid (∀ W, Calls Tryd.prog 6 #[S p] W fun e w' => (∃ A1 A2 A3 c1 c2 c3, e = .returned (.tuple #[.slice A1 F.length c1, .slice A2 G.length c2, .slice A3 N c3, .nilIface]) ∧ Ints w' w'.heap.size A1 F.length (zs F) ∧ Ints w' w'.heap.size A2 G.length (zs G) ∧ Rws w' w'.heap.size A3 N X) ∧ Below W.heap.size W w') := Lib.hid fun W => (ofR_any p W h9).mono fun e w' h => by
    refine ⟨?_, h.2⟩
    rcases h.1 with ⟨h0, _⟩ | ⟨t', A1, A2, A3, c1, c2, c3, _, _, ht', e1, i1, i2, i3⟩
    · exact absurd he h0
    · rw [ht] at ht'
      injection ht' with ht'
      subst ht'
      rw [← hF, ← hG, ← hNN] at e1
      rw [← hF] at i1
      rw [← hG] at i2
      rw [← hNN, ← hX] at i3
      exact ⟨A1, A2, A3, c1, c2, c3, e1, i1, i2, i3⟩
  have HE0 : Hid (∀ W, HG W → Calls Tryd.prog 7 #[.nilIface, .int .i64 0] W fun e w' => e = .returned (.bool true) ∧ Below W.heap.size W w') := Lib.hid fun W h => (error_any 0 0 W h).mono fun e w' h => ⟨by rw [h.1]; rfl, h.2⟩
  have HE4 : Hid (∀ W, HG W → Calls Tryd.prog 7 #[errV 4, .int .i64 4] W fun e w' => e = .returned (.bool true) ∧ Below W.heap.size W w') := Lib.hid fun W h => (error_any 4 4 W h).mono fun e w' h => ⟨by rw [h.1]; rfl, h.2⟩
  have HM8 : 8 < s.length → Hid (∀ W, Calls Tryd.prog 10 #[S p, S s] W fun e w' => e = .returned (.tuple #[.bool false, errV 4]) ∧ Below W.heap.size W w') := fun h8 => Lib.hid fun W => by
    have := match_any p s W h9 hs9
    rwa [(match_long he h8).1, (match_long he h8).2] at this
  have HM0 : s.length ≤ 8 → Hid (∀ W, Calls Tryd.prog 10 #[S p, S s] W fun e w' => e = .returned (.tuple #[.bool (mt rt s), .nilIface]) ∧ Below W.heap.size W w') := fun h8 => Lib.hid fun W => by
    have := match_any p s W h9 hs9
    rwa [(match_short he ht hrel h8).1, (match_short he ht hrel h8).2] at this
  have HF : s.length ≤ 8 → Hid (∀ W v xs kk, NV W 0 v xs → RepR xs rt kk → Calls Tryd.prog 11 #[PV v [] false kk, S s] W fun e w' => e = .returned (.bool (mt rt s)) ∧ Below W.heap.size W w') := fun h8 => Lib.hid fun W v xs kk h1 h2 => fitsT_any rt s (by omega) v xs [] false kk W h1 h2
  generalize errV 4 = ev at *
  generalize mt rt s = M at *
  clear hg ht hrel hrt he h12 hsf hsl hsp hnum hlv hnd hF hG hX hN
  rw [← hNN] at hN12
  clear hNN
  have HZ : Hid ((zs F).length ≤ 100000 ∧ (zs G).length ≤ 100000) := Lib.hid (by simp only [zs, List.length_map]; omega)
  have HC3 : (8 < s.length) ∨ (s.length ≤ 8 ∧ M = true) ∨ (s.length ≤ 8 ∧ M = false) := by
    rcases Nat.lt_or_ge 8 s.length with h | h
    · exact .inl h
    · cases M
      · exact .inr (.inr ⟨h, rfl⟩)
      · exact .inr (.inl ⟨h, rfl⟩)
  rcases HC3 with h8 | ⟨h8, rfl⟩ | ⟨h8, rfl⟩
  · have p8 : (8 : Int) < (s.length : Int) := by omega
    have HM := HM8 h8
    clear HM8 HM0 HF
    go_enter Tryd.func3, Tryd.ntmps3
    go_wp2_with fail
    refine HR.out.mono ?_
    rintro e w1 ⟨⟨v, xs, kk, rfl, hnv, hrp⟩, hb1⟩
    have HRP := Lib.hid hrp
    obtain ⟨A, c, rfl, _⟩ := own_shape hnv
    generalize xs.length = nx at *
    have HNV := Lib.hid (hnv.keep ((Below.refl w1.heap.size w1).alloc (Nat.le_refl _) (pObj (.slice A nx c) [] false kk)) (Nat.le_refl _))
    have hp1 := heap_alloc_new w1 (pObj (.slice A nx c) [] false kk)
    have HP1 := Lib.hid hp1
    have HA1 := Lib.hid (hb1.alloc hb1.size (pObj (.slice A nx c) [] false kk))
    have HPP := Lib.hid (HP.out _ _ xs kk HNV.out HRP.out)
    obtain ⟨a0, a1, a2, a3, _, _, _, _⟩ := four_at hp1
    clear hb1 HR hrp hnv hp1 HP
    go_wp2_with fail
    refine HPP.out.mono ?_
    rintro e w2 ⟨⟨Af, nf, cf, As, ns, cs, Aq, nq, cq, rfl, i1, i2, i3⟩, hb2⟩
    have HN2 := Lib.hid (HNV.out.keep hb2 (Nat.le_refl _))
    have HP2 := Lib.hid ((hb2.block w1.heap.size (Array.getElem?_eq_some_iff.1 HP1.out).1).trans HP1.out)
    have HB2 := Lib.hid (HA1.out.trans (hb2.mono HA1.out.size))
    have J1 := Lib.hid i1; have J2 := Lib.hid i2; have J3 := Lib.hid i3
    clear hb2 HPP HA1 HNV HP1 i1 i2 i3 a0 a1 a2 a3
    go_wp2_with fail
    refine (HO.out _).mono ?_
    rintro e w3 ⟨⟨A1, A2, A3, c1, c2, c3, rfl, i1, i2, i3⟩, hb3⟩
    have HB3 := Lib.hid (HB2.out.trans (hb3.mono HB2.out.size))
    have HQ : Hid (∀ W, Below w3.heap.size w3 W → (Calls Tryd.prog 8 #[.slice A1 F.length c1, .slice Af nf cf] W fun e w' => e = .returned (.bool true) ∧ Below W.heap.size W w') ∧ (Calls Tryd.prog 8 #[.slice A2 G.length c2, .slice As ns cs] W fun e w' => e = .returned (.bool true) ∧ Below W.heap.size W w') ∧ (Calls Tryd.prog 9 #[.slice A3 N c3, .slice Aq nq cq] W fun e w' => e = .returned (.bool true) ∧ Below W.heap.size W w')) := Lib.hid (fun W hb => by
      have hb23 := hb3.trans (hb.mono hb3.size)
      refine ⟨(smI_any A1 Af F.length nf c1 cf W.heap.size _ _ W ((i1.below hb).more hb.size) ((J1.out.below hb23).more hb23.size) (by omega)).mono fun e w' h => ?_, (smI_any A2 As G.length ns c2 cs W.heap.size _ _ W ((i2.below hb).more hb.size) ((J2.out.below hb23).more hb23.size) (by omega)).mono fun e w' h => ?_, (smR_any A3 Aq N nq c3 cq W.heap.size _ _ W ((i3.below hb).more hb.size) ((J3.out.below hb23).more hb23.size) (by omega) (fun i _ => HXL.out i)).mono fun e w' h => ?_⟩
      all_goals
        obtain ⟨rfl, q, rfl⟩ := h
        exact ⟨by simp, below_drewN (Below.refl _ _) q⟩)
    have HFT : Hid (∀ W, Below w3.heap.size w3 W → NV W 0 (.slice A nx c) xs ∧ W.heap[w1.heap.size]? = some (pObj (.slice A nx c) [] false kk)) := Lib.hid (fun W hb => by
      have hb23 := hb3.trans (hb.mono hb3.size)
      exact ⟨HN2.out.keep hb23 (Nat.le_refl _), (hb23.block w1.heap.size (Array.getElem?_eq_some_iff.1 HP2.out).1).trans HP2.out⟩)
    have HK3 := Lib.hid (Below.refl w3.heap.size w3)
    have HE3 := Lib.hid (HE0.out _ (HG0.out.below HB3.out (Nat.le_refl _)))
    clear hb3 i1 i2 i3 J1 J2 J3 HN2 HP2 HB2 HO
    go_wp2_with fail
    refine HE3.out.mono ?_
    rintro e w4 ⟨rfl, hb4⟩
    have HB4 := Lib.hid (HB3.out.trans (hb4.mono HB3.out.size))
    have HK4 := Lib.hid (HK3.out.trans (hb4.mono HK3.out.size))
    have HI4 := Lib.hid (HQ.out _ HK4.out).1
    clear hb4 HB3 HK3
    go_wp2_with fail
    refine HI4.out.mono ?_
    rintro e w5 ⟨rfl, hb5⟩
    have HB5 := Lib.hid (HB4.out.trans (hb5.mono HB4.out.size))
    have HK5 := Lib.hid (HK4.out.trans (hb5.mono HK4.out.size))
    have HI5 := Lib.hid (HQ.out _ HK5.out).2.1
    clear hb5 HB4 HK4
    go_wp2_with fail
    refine HI5.out.mono ?_
    rintro e w6 ⟨rfl, hb6⟩
    have HB6 := Lib.hid (HB5.out.trans (hb6.mono HB5.out.size))
    have HK6 := Lib.hid (HK5.out.trans (hb6.mono HK5.out.size))
    have HI6 := Lib.hid (HQ.out _ HK6.out).2.2
    clear hb6 HB5 HK5
    go_wp2_with fail
    refine HI6.out.mono ?_
    rintro e w7 ⟨rfl, hb7⟩
    have HB7 := Lib.hid (HB6.out.trans (hb7.mono HB6.out.size))
    have HK7 := Lib.hid (HK6.out.trans (hb7.mono HK6.out.size))
    clear HQ HI4 HI5
    clear hb7 HB6 HK6
    go_wp2_with fail
    refine (HM.out _).mono ?_
    rintro e w8 ⟨rfl, hb8⟩
    have HB8 := Lib.hid (HB7.out.trans (hb8.mono HB7.out.size))
    have HK8 := Lib.hid (HK7.out.trans (hb8.mono HK7.out.size))
    have HE8 := Lib.hid (HE4.out _ (HG0.out.below HB8.out (Nat.le_refl _)))
    clear hb8 HB7 HK7
    go_wp2_with fail
    refine HE8.out.mono ?_
    rintro e w9 ⟨rfl, hb9⟩
    have HB9 := Lib.hid (HB8.out.trans (hb9.mono HB8.out.size))
    have HK9 := Lib.hid (HK8.out.trans (hb9.mono HK8.out.size))
    clear hb9 HB8 HK8
    go_wp2_with fail
    go_ret
    exact ⟨rfl, HB9.out⟩
  · have p8 : ¬ (8 : Int) < (s.length : Int) := by omega
    have HM := HM0 h8
    have HFF := HF h8
    clear HM8 HM0 HF
    go_enter Tryd.func3, Tryd.ntmps3
    go_wp2_with fail
    refine HR.out.mono ?_
    rintro e w1 ⟨⟨v, xs, kk, rfl, hnv, hrp⟩, hb1⟩
    have HRP := Lib.hid hrp
    obtain ⟨A, c, rfl, _⟩ := own_shape hnv
    generalize xs.length = nx at *
    have HNV := Lib.hid (hnv.keep ((Below.refl w1.heap.size w1).alloc (Nat.le_refl _) (pObj (.slice A nx c) [] false kk)) (Nat.le_refl _))
    have hp1 := heap_alloc_new w1 (pObj (.slice A nx c) [] false kk)
    have HP1 := Lib.hid hp1
    have HA1 := Lib.hid (hb1.alloc hb1.size (pObj (.slice A nx c) [] false kk))
    have HPP := Lib.hid (HP.out _ _ xs kk HNV.out HRP.out)
    obtain ⟨a0, a1, a2, a3, _, _, _, _⟩ := four_at hp1
    clear hb1 HR hrp hnv hp1 HP
    go_wp2_with fail
    refine HPP.out.mono ?_
    rintro e w2 ⟨⟨Af, nf, cf, As, ns, cs, Aq, nq, cq, rfl, i1, i2, i3⟩, hb2⟩
    have HN2 := Lib.hid (HNV.out.keep hb2 (Nat.le_refl _))
    have HP2 := Lib.hid ((hb2.block w1.heap.size (Array.getElem?_eq_some_iff.1 HP1.out).1).trans HP1.out)
    have HB2 := Lib.hid (HA1.out.trans (hb2.mono HA1.out.size))
    have J1 := Lib.hid i1; have J2 := Lib.hid i2; have J3 := Lib.hid i3
    clear hb2 HPP HA1 HNV HP1 i1 i2 i3 a0 a1 a2 a3
    go_wp2_with fail
    refine (HO.out _).mono ?_
    rintro e w3 ⟨⟨A1, A2, A3, c1, c2, c3, rfl, i1, i2, i3⟩, hb3⟩
    have HB3 := Lib.hid (HB2.out.trans (hb3.mono HB2.out.size))
    have HQ : Hid (∀ W, Below w3.heap.size w3 W → (Calls Tryd.prog 8 #[.slice A1 F.length c1, .slice Af nf cf] W fun e w' => e = .returned (.bool true) ∧ Below W.heap.size W w') ∧ (Calls Tryd.prog 8 #[.slice A2 G.length c2, .slice As ns cs] W fun e w' => e = .returned (.bool true) ∧ Below W.heap.size W w') ∧ (Calls Tryd.prog 9 #[.slice A3 N c3, .slice Aq nq cq] W fun e w' => e = .returned (.bool true) ∧ Below W.heap.size W w')) := Lib.hid (fun W hb => by
      have hb23 := hb3.trans (hb.mono hb3.size)
      refine ⟨(smI_any A1 Af F.length nf c1 cf W.heap.size _ _ W ((i1.below hb).more hb.size) ((J1.out.below hb23).more hb23.size) (by omega)).mono fun e w' h => ?_, (smI_any A2 As G.length ns c2 cs W.heap.size _ _ W ((i2.below hb).more hb.size) ((J2.out.below hb23).more hb23.size) (by omega)).mono fun e w' h => ?_, (smR_any A3 Aq N nq c3 cq W.heap.size _ _ W ((i3.below hb).more hb.size) ((J3.out.below hb23).more hb23.size) (by omega) (fun i _ => HXL.out i)).mono fun e w' h => ?_⟩
      all_goals
        obtain ⟨rfl, q, rfl⟩ := h
        exact ⟨by simp, below_drewN (Below.refl _ _) q⟩)
    have HFT : Hid (∀ W, Below w3.heap.size w3 W → NV W 0 (.slice A nx c) xs ∧ W.heap[w1.heap.size]? = some (pObj (.slice A nx c) [] false kk)) := Lib.hid (fun W hb => by
      have hb23 := hb3.trans (hb.mono hb3.size)
      exact ⟨HN2.out.keep hb23 (Nat.le_refl _), (hb23.block w1.heap.size (Array.getElem?_eq_some_iff.1 HP2.out).1).trans HP2.out⟩)
    have HK3 := Lib.hid (Below.refl w3.heap.size w3)
    have HE3 := Lib.hid (HE0.out _ (HG0.out.below HB3.out (Nat.le_refl _)))
    clear hb3 i1 i2 i3 J1 J2 J3 HN2 HP2 HB2 HO
    go_wp2_with fail
    refine HE3.out.mono ?_
    rintro e w4 ⟨rfl, hb4⟩
    have HB4 := Lib.hid (HB3.out.trans (hb4.mono HB3.out.size))
    have HK4 := Lib.hid (HK3.out.trans (hb4.mono HK3.out.size))
    have HI4 := Lib.hid (HQ.out _ HK4.out).1
    clear hb4 HB3 HK3
    go_wp2_with fail
    refine HI4.out.mono ?_
    rintro e w5 ⟨rfl, hb5⟩
    have HB5 := Lib.hid (HB4.out.trans (hb5.mono HB4.out.size))
    have HK5 := Lib.hid (HK4.out.trans (hb5.mono HK4.out.size))
    have HI5 := Lib.hid (HQ.out _ HK5.out).2.1
    clear hb5 HB4 HK4
    go_wp2_with fail
    refine HI5.out.mono ?_
    rintro e w6 ⟨rfl, hb6⟩
    have HB6 := Lib.hid (HB5.out.trans (hb6.mono HB5.out.size))
    have HK6 := Lib.hid (HK5.out.trans (hb6.mono HK5.out.size))
    have HI6 := Lib.hid (HQ.out _ HK6.out).2.2
    clear hb6 HB5 HK5
    go_wp2_with fail
    refine HI6.out.mono ?_
    rintro e w7 ⟨rfl, hb7⟩
    have HB7 := Lib.hid (HB6.out.trans (hb7.mono HB6.out.size))
    have HK7 := Lib.hid (HK6.out.trans (hb7.mono HK6.out.size))
    clear HQ HI4 HI5
    clear hb7 HB6 HK6
    go_wp2_with fail
    refine (HM.out _).mono ?_
    rintro e w8 ⟨rfl, hb8⟩
    have HB8 := Lib.hid (HB7.out.trans (hb8.mono HB7.out.size))
    have HK8 := Lib.hid (HK7.out.trans (hb8.mono HK7.out.size))
    have HE8 := Lib.hid (HE0.out _ (HG0.out.below HB8.out (Nat.le_refl _)))
    clear hb8 HB7 HK7
    go_wp2_with fail
    refine HE8.out.mono ?_
    rintro e w9 ⟨rfl, hb9⟩
    have HB9 := Lib.hid (HB8.out.trans (hb9.mono HB8.out.size))
    have HK9 := Lib.hid (HK8.out.trans (hb9.mono HK8.out.size))
    obtain ⟨hn9, hp9⟩ := HFT.out _ HK9.out
    have HF9 := Lib.hid (HFF.out w9 _ xs kk hn9 HRP.out)
    obtain ⟨a0, a1, a2, a3, _, _, _, _⟩ := four_at hp9
    clear hn9 hp9
    clear hb9 HB8 HK8
    go_wp2_with fail
    refine HF9.out.mono ?_
    rintro e w10 ⟨rfl, hb10⟩
    have HB10 := Lib.hid (HB9.out.trans (hb10.mono HB9.out.size))
    have HK10 := Lib.hid (HK9.out.trans (hb10.mono HK9.out.size))
    clear a0 a1 a2 a3
    clear hb10 HB9 HK9
    go_wp2_with fail
    go_ret
    exact ⟨rfl, HB10.out⟩
  · have p8 : ¬ (8 : Int) < (s.length : Int) := by omega
    have HM := HM0 h8
    have HFF := HF h8
    clear HM8 HM0 HF
    go_enter Tryd.func3, Tryd.ntmps3
    go_wp2_with fail
    refine HR.out.mono ?_
    rintro e w1 ⟨⟨v, xs, kk, rfl, hnv, hrp⟩, hb1⟩
    have HRP := Lib.hid hrp
    obtain ⟨A, c, rfl, _⟩ := own_shape hnv
    generalize xs.length = nx at *
    have HNV := Lib.hid (hnv.keep ((Below.refl w1.heap.size w1).alloc (Nat.le_refl _) (pObj (.slice A nx c) [] false kk)) (Nat.le_refl _))
    have hp1 := heap_alloc_new w1 (pObj (.slice A nx c) [] false kk)
    have HP1 := Lib.hid hp1
    have HA1 := Lib.hid (hb1.alloc hb1.size (pObj (.slice A nx c) [] false kk))
    have HPP := Lib.hid (HP.out _ _ xs kk HNV.out HRP.out)
    obtain ⟨a0, a1, a2, a3, _, _, _, _⟩ := four_at hp1
    clear hb1 HR hrp hnv hp1 HP
    go_wp2_with fail
    refine HPP.out.mono ?_
    rintro e w2 ⟨⟨Af, nf, cf, As, ns, cs, Aq, nq, cq, rfl, i1, i2, i3⟩, hb2⟩
    have HN2 := Lib.hid (HNV.out.keep hb2 (Nat.le_refl _))
    have HP2 := Lib.hid ((hb2.block w1.heap.size (Array.getElem?_eq_some_iff.1 HP1.out).1).trans HP1.out)
    have HB2 := Lib.hid (HA1.out.trans (hb2.mono HA1.out.size))
    have J1 := Lib.hid i1; have J2 := Lib.hid i2; have J3 := Lib.hid i3
    clear hb2 HPP HA1 HNV HP1 i1 i2 i3 a0 a1 a2 a3
    go_wp2_with fail
    refine (HO.out _).mono ?_
    rintro e w3 ⟨⟨A1, A2, A3, c1, c2, c3, rfl, i1, i2, i3⟩, hb3⟩
    have HB3 := Lib.hid (HB2.out.trans (hb3.mono HB2.out.size))
    have HQ : Hid (∀ W, Below w3.heap.size w3 W → (Calls Tryd.prog 8 #[.slice A1 F.length c1, .slice Af nf cf] W fun e w' => e = .returned (.bool true) ∧ Below W.heap.size W w') ∧ (Calls Tryd.prog 8 #[.slice A2 G.length c2, .slice As ns cs] W fun e w' => e = .returned (.bool true) ∧ Below W.heap.size W w') ∧ (Calls Tryd.prog 9 #[.slice A3 N c3, .slice Aq nq cq] W fun e w' => e = .returned (.bool true) ∧ Below W.heap.size W w')) := Lib.hid (fun W hb => by
      have hb23 := hb3.trans (hb.mono hb3.size)
      refine ⟨(smI_any A1 Af F.length nf c1 cf W.heap.size _ _ W ((i1.below hb).more hb.size) ((J1.out.below hb23).more hb23.size) (by omega)).mono fun e w' h => ?_, (smI_any A2 As G.length ns c2 cs W.heap.size _ _ W ((i2.below hb).more hb.size) ((J2.out.below hb23).more hb23.size) (by omega)).mono fun e w' h => ?_, (smR_any A3 Aq N nq c3 cq W.heap.size _ _ W ((i3.below hb).more hb.size) ((J3.out.below hb23).more hb23.size) (by omega) (fun i _ => HXL.out i)).mono fun e w' h => ?_⟩
      all_goals
        obtain ⟨rfl, q, rfl⟩ := h
        exact ⟨by simp, below_drewN (Below.refl _ _) q⟩)
    have HFT : Hid (∀ W, Below w3.heap.size w3 W → NV W 0 (.slice A nx c) xs ∧ W.heap[w1.heap.size]? = some (pObj (.slice A nx c) [] false kk)) := Lib.hid (fun W hb => by
      have hb23 := hb3.trans (hb.mono hb3.size)
      exact ⟨HN2.out.keep hb23 (Nat.le_refl _), (hb23.block w1.heap.size (Array.getElem?_eq_some_iff.1 HP2.out).1).trans HP2.out⟩)
    have HK3 := Lib.hid (Below.refl w3.heap.size w3)
    have HE3 := Lib.hid (HE0.out _ (HG0.out.below HB3.out (Nat.le_refl _)))
    clear hb3 i1 i2 i3 J1 J2 J3 HN2 HP2 HB2 HO
    go_wp2_with fail
    refine HE3.out.mono ?_
    rintro e w4 ⟨rfl, hb4⟩
    have HB4 := Lib.hid (HB3.out.trans (hb4.mono HB3.out.size))
    have HK4 := Lib.hid (HK3.out.trans (hb4.mono HK3.out.size))
    have HI4 := Lib.hid (HQ.out _ HK4.out).1
    clear hb4 HB3 HK3
    go_wp2_with fail
    refine HI4.out.mono ?_
    rintro e w5 ⟨rfl, hb5⟩
    have HB5 := Lib.hid (HB4.out.trans (hb5.mono HB4.out.size))
    have HK5 := Lib.hid (HK4.out.trans (hb5.mono HK4.out.size))
    have HI5 := Lib.hid (HQ.out _ HK5.out).2.1
    clear hb5 HB4 HK4
    go_wp2_with fail
    refine HI5.out.mono ?_
    rintro e w6 ⟨rfl, hb6⟩
    have HB6 := Lib.hid (HB5.out.trans (hb6.mono HB5.out.size))
    have HK6 := Lib.hid (HK5.out.trans (hb6.mono HK5.out.size))
    have HI6 := Lib.hid (HQ.out _ HK6.out).2.2
    clear hb6 HB5 HK5
    go_wp2_with fail
    refine HI6.out.mono ?_
    rintro e w7 ⟨rfl, hb7⟩
    have HB7 := Lib.hid (HB6.out.trans (hb7.mono HB6.out.size))
    have HK7 := Lib.hid (HK6.out.trans (hb7.mono HK6.out.size))
    clear HQ HI4 HI5
    clear hb7 HB6 HK6
    go_wp2_with fail
    refine (HM.out _).mono ?_
    rintro e w8 ⟨rfl, hb8⟩
    have HB8 := Lib.hid (HB7.out.trans (hb8.mono HB7.out.size))
    have HK8 := Lib.hid (HK7.out.trans (hb8.mono HK7.out.size))
    have HE8 := Lib.hid (HE0.out _ (HG0.out.below HB8.out (Nat.le_refl _)))
    clear hb8 HB7 HK7
    go_wp2_with fail
    refine HE8.out.mono ?_
    rintro e w9 ⟨rfl, hb9⟩
    have HB9 := Lib.hid (HB8.out.trans (hb9.mono HB8.out.size))
    have HK9 := Lib.hid (HK8.out.trans (hb9.mono HK8.out.size))
    obtain ⟨hn9, hp9⟩ := HFT.out _ HK9.out
    have HF9 := Lib.hid (HFF.out w9 _ xs kk hn9 HRP.out)
    obtain ⟨a0, a1, a2, a3, _, _, _, _⟩ := four_at hp9
    clear hn9 hp9
    clear hb9 HB8 HK8
    go_wp2_with fail
    refine HF9.out.mono ?_
    rintro e w10 ⟨rfl, hb10⟩
    have HB10 := Lib.hid (HB9.out.trans (hb10.mono HB9.out.size))
    have HK10 := Lib.hid (HK9.out.trans (hb10.mono HK9.out.size))
    clear a0 a1 a2 a3
    clear hb10 HB9 HK9
    go_wp2_with fail
    go_ret
    exact ⟨rfl, HB10.out⟩
theorem nfaSays_walk (w : World) (p s : List UInt8) (h9 : p.length ≤ 9223372036854775807) (hs9 : s.length ≤ 9223372036854775807) (hg : HG w) :
    Calls Tryd.prog 3 #[S p, S s] w fun e w' => e = .returned (.bool true) ∧ Below w.heap.size w w' := by
  by_cases he : parsE p = 0
  · exact nsays_good w p s hs9 hg he
  · exact nsays_bad w p s h9 hs9 hg he
end Go.Proofs.YtchhbnnpannnhaaDoor
