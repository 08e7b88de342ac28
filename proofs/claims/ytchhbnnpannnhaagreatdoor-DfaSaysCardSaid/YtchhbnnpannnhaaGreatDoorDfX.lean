/- The document's machine of a pattern: its walk. No condition. -/
import Derived.Test.YtchhbnnpannnhaaGreatDoorMg14
import Derived.Test.YtchhbnnpannnhaaGreatDoorDfG
import Derived.Test.YtchhbnnpannnhaaGreatDoorMg15
namespace Go.Proofs.YtchhbnnpannnhaaGreatDoor
open Go.RowKit Go.Lib IntWalk Go.Maps
set_option linter.unusedSimpArgs false
set_option linter.unusedVariables false
attribute [local go_sem] byte_at str_app
attribute [local go_sem ↓] Go.wp_at_zero Go.wp_at_succ

theorem ownI_of {w : World} {D : Nat} {v : Value} {L : List Nat} (h : w.ownsRow D 3 1 v (L.map eI).length (L.map eI)) : OwI w D v (zs L) := by
  have e : (zs L).map (Value.int .i64) = L.map eI := by rw [List.map_map]; rfl
  unfold OwI
  rw [e]; exact h
theorem own_low {w : World} {D D' n : Nat} {e : TypeId} {v : Value} {xs : List Value} (h : w.ownsRow D e 1 v n xs) (hd : D' ≤ D) : w.ownsRow D' e 1 v n xs := by
  refine ⟨h.1, ?_⟩
  rcases h.2 with h2 | ⟨g, cap, cur, hv, hg, r⟩
  · exact .inl h2
  · exact .inr ⟨g, cap, cur, hv, Nat.le_trans hd hg, r⟩
theorem canP_zero {t : Pt} {m : Nat} (hm : m ≠ beg) : canP t m 0 = [] := by unfold canP; rw [if_neg hm]; rfl
theorem KY.at_ {w : World} {D n c k : Nat} {A : Option Addr} {KS : List (List Int)} {ok : Nat → Prop} (h : KY w D (.slice A n c) KS ok) (hk : k < n) :
    ∃ g aK nK cK, A = some ⟨g, 0, none⟩ ∧ w.cell? ⟨g, k, none⟩ = some (.slice aK nK cK) ∧ OwI w D (.slice aK nK cK) (ro KS k) ∧ nK = (ro KS k).length := by
  obtain ⟨KC, h1, h2, h3⟩ := h
  have hn : KC.length = n := by
    rcases own_shape h2 with ⟨A', c', e, _⟩
    injection e with _ e _
    exact e.symm
  rcases h2.2 with ⟨e, h0⟩ | ⟨g, cap, cur, e, hg, hh, _, _, _, htake⟩
  · omega
  · injection e with e1 e2 e3
    subst e1
    obtain ⟨u, k1, k2, _⟩ := h3 k (by omega)
    obtain ⟨A', c', e', _⟩ := own_shape k2
    subst e'
    have := h2.cells (g := g) rfl k _ k1
    refine ⟨g, A', _, c', rfl, ?_, k2, by rw [List.length_map]⟩
    rwa [Addr.add_lit, Nat.zero_add] at this
theorem KY.at0 {w : World} {D : Nat} {v : Value} {met : List Nat} {n : Nat} {ok : Nat → Prop} (h : KY w D v (met.map (stZ n)) ok) (hp : 0 < met.length) : ∃ g, v.ownBlock = some g := by
  obtain ⟨A, c, e⟩ := h.shape
  subst e
  obtain ⟨g, _, _, _, e, _⟩ := h.at_ (k := 0) (by rw [List.length_map]; exact hp)
  subst e
  exact ⟨g, rfl⟩
set_option maxRecDepth 100000 in
set_option maxHeartbeats 8000000 in
theorem machine_any (p : List UInt8) (t : Pt) (he : parsE p = 0) (ht : par p = some t) (w : World) :
    Calls Tryz.prog 10 #[S p] w fun e w' => (∃ A' n' k' A2' n2' k2', e = .returned (mcv (sgs p) A' n' k' A2' n2' k2') ∧ ∀ W : World, (∀ k, w.heap.size ≤ k → k < w'.heap.size → W.heap[k]? = w'.heap[k]?) → MacW W W.heap.size A' n' A2' n2' (dfM t (sgs p))) ∧ Below w.heap.size w w' := by
  obtain ⟨i0, hi0, hz0, hz1, hz2⟩ := info_parts info_intL
  obtain ⟨i1, hi1, hy0, hy1, hy2⟩ := info_parts info_rowsL
  obtain ⟨i2, hi2, hx0, hx1, hx2⟩ := info_parts info_boolL
  obtain ⟨h12, _⟩ := parsE_some he
  have h9 : p.length ≤ 9223372036854775807 := by omega
  obtain ⟨rt, hrt, hrel⟩ := rd_some ht
  obtain ⟨hlv, hnum⟩ := par_leaves ht
  have hNr : nR rt = (leaves t).length := by unfold nR; rw [lv_rel hrel]
  have hN12 : (leaves t).length ≤ 12 := by
    rw [hlv]
    have : (lets p).length ≤ p.length := List.length_filter_le _ _
    omega
  have hnd := rd_nd hrt
  obtain ⟨hsf, hsl, hsp⟩ := sets_rel hrel hnum
  have hsg12 : (sgs p).length ≤ 12 := by have := sgs_lenD p; rw [← hlv] at this; omega
  have hmt : mt rt [] = nul t := mt_nul hrel
  have HR : Hid (∀ W, Calls Tryz.prog 9 #[S p] W fun e w' => (∃ v xs kk, e = .returned (.tuple #[PV v [] false kk, .int .i64 0]) ∧ NV w' 0 v xs ∧ RepR xs rt kk) ∧ Below W.heap.size W w') := Lib.hid (fun W => (readR_any p W h9).mono fun e w' h => by
    refine ⟨?_, h.2⟩
    rcases h.1 with ⟨k', hk', h4, h2, e1⟩ | ⟨_, rt', v, xs, kk, hrt', e1, hnv, hrp, _⟩
    · have := (h2 h12).2
      rw [hrt] at this; cases this
    · rw [hrt] at hrt'
      injection hrt' with hrt'
      subst hrt'
      exact ⟨v, xs, kk, e1, hnv, hrp⟩)
  obtain ⟨N, hN⟩ : ∃ N, N = (leaves t).length := ⟨_, rfl⟩
  have HP : Hid (∀ W v xs kk, NV W 0 v xs → RepR xs rt kk → Calls Tryz.prog 20 #[PV v [] false kk] W fun e w' => (∃ Af nf cf As ns cs Aq nq cq, e = .returned (.tuple #[.slice Af nf cf, .slice As ns cs, .slice Aq nq cq]) ∧ Ints w' w'.heap.size Af nf (zs (srt N (fsP t))) ∧ Ints w' w'.heap.size As ns (zs (srt N (lsP t))) ∧ Rws w' w'.heap.size Aq nq (nxL N t)) ∧ Below W.heap.size W w') := Lib.hid (fun W v xs kk h1 h2 => (places_any rt xs v [] false kk W h1 h2 (by omega) (by omega)).mono fun e w' h => by
    obtain ⟨⟨f, l, q, rfl, a1, a2, a3⟩, hb⟩ := h
    rw [hNr, srt_iff (fun i => (hsf i).symm), ← hN] at a1
    rw [hNr, srt_iff (fun i => (hsl i).symm), ← hN] at a2
    rw [hNr, ← hN] at a3
    obtain ⟨Af, cf, rfl⟩ := a1.shape
    obtain ⟨As, cs, rfl⟩ := a2.shape
    obtain ⟨Aq, cq, rfl⟩ := a3.shape
    have a4 := a3.rows
    rw [nxR_iff hsp] at a4
    exact ⟨⟨_, _, _, _, _, _, _, _, _, rfl, a1.ints.1, a2.ints.1, a4⟩, hb⟩)
  have HF : Hid (∀ W v xs kk, NV W 0 v xs → RepR xs rt kk → Calls Tryz.prog 23 #[PV v [] false kk, S []] W fun e w' => e = .returned (.bool (nul t)) ∧ Below W.heap.size W w') := Lib.hid fun W v xs kk h1 h2 => by have := fitsT_any rt [] (by simp) v xs [] false kk W h1 h2; rwa [hmt] at this
  have HSG := Lib.hid (fun W => signsR_any p W (by omega))
  have HLT := Lib.hid (fun W => letters_any p W (by omega))
  rw [← hlv] at HLT
  have HN := Lib.hid hN; have HN12 := Lib.hid hN12; have HSGL := Lib.hid hsg12
  generalize sgs p = sg at *
  clear hrt hrel hlv hnum hNr hnd hsf hsl hsp hmt he ht h12 h9 hsg12 hN hN12
  go_enter Tryz.func10, Tryz.ntmps10
  go_wp2_with fail
  have hA0 := (Below.refl w.heap.size w).alloc (Nat.le_refl _) (.cells #[S [], .slice none 0 0, .slice none 0 0] 25)
  have hr0 := heap_alloc_new w (.cells #[S [], .slice none 0 0, .slice none 0 0] 25)
  generalize w.alloc (.cells #[S [], .slice none 0 0, .slice none 0 0] 25) = w1 at *
  have hA0z : w.heap.size < w1.heap.size := (Array.getElem?_eq_some_iff.1 hr0).1
  refine (HR.out _).mono ?_
  rintro e w2 ⟨⟨v, xs, kk, rfl, hnv, hrp⟩, hb2⟩
  have HRP := Lib.hid hrp
  obtain ⟨A, c, rfl, _⟩ := own_shape hnv
  generalize xs.length = nx at *
  have HNV := Lib.hid (hnv.keep ((Below.refl w2.heap.size w2).alloc (Nat.le_refl _) (pObj (.slice A nx c) [] false kk)) (Nat.le_refl _))
  have hp3 := heap_alloc_new w2 (pObj (.slice A nx c) [] false kk)
  have hb3 := (Below.refl w2.heap.size w2).alloc (Nat.le_refl _) (pObj (.slice A nx c) [] false kk)
  have hb03 := hA0.trans ((hb2.trans (hb3.mono hb2.size)).mono hA0.size)
  have hr3 := ((hb2.trans (hb3.mono hb2.size)).block w.heap.size hA0z).trans hr0
  have HPP := Lib.hid (HP.out _ _ xs kk HNV.out HRP.out)
  obtain ⟨a0, a1, a2, a3, _, _, _, _⟩ := four_at hp3
  have hgp : w2.heap.size < (w2.alloc (pObj (.slice A nx c) [] false kk)).heap.size := (Array.getElem?_eq_some_iff.1 hp3).1
  have HX3 := Lib.hid (And.intro hb03 (And.intro hr3 (And.intro hp3 hgp)))
  clear hb2 hb3 hb03 hr3 hp3 hgp hA0 hr0 HR hrp hnv HP
  go_wp2_with fail
  refine HPP.out.mono ?_
  rintro e w4 ⟨⟨Af, nf, cf, As, ns, cs, Aq, nq, cq, rfl, j1, j2, j3⟩, hb4⟩
  have HX4 : Hid (Below w.heap.size w w4 ∧ w4.heap[w.heap.size]? = some (.cells #[S [], .slice none 0 0, .slice none 0 0] 25 (0, 0)) ∧ w.heap.size < w4.heap.size ∧ w2.heap.size < w4.heap.size ∧ w.heap.size ≠ w4.heap.size) := Lib.hid (by
    obtain ⟨k1, k2, k3, k4⟩ := HX3.out
    have hl := (Array.getElem?_eq_some_iff.1 k2).1
    have := hb4.size
    exact ⟨k1.trans (hb4.mono k1.size), (hb4.block _ hl).trans k2, by omega, by omega, by omega⟩)
  have HRD : Hid (∀ W, Below w4.heap.size w4 W → (Ints W w4.heap.size Af nf (zs (srt N (fsP t))) ∧ Ints W w4.heap.size As ns (zs (srt N (lsP t))) ∧ Rws W w4.heap.size Aq nq (nxL N t)) ∧ NV W 0 (.slice A nx c) xs ∧ W.heap[w2.heap.size]? = some (pObj (.slice A nx c) [] false kk)) := Lib.hid (fun W hb => by
    have hbb := hb4.trans (hb.mono hb4.size)
    exact ⟨⟨j1.below hb, j2.below hb, j3.below hb⟩, HNV.out.keep hbb (Nat.le_refl _), (hbb.block w2.heap.size HX3.out.2.2.2).trans HX3.out.2.2.1⟩)
  have hO5 := heap_alloc_new w4 (.cells #[S [], .slice none 0 0, .slice none 0 0] 25)
  have hb5 := (Below.refl w4.heap.size w4).alloc (Nat.le_refl _) (.cells #[S [], .slice none 0 0, .slice none 0 0] 25)
  have HSGw := Lib.hid (HSG.out (w4.alloc (.cells #[S [], .slice none 0 0, .slice none 0 0] 25)))
  have HX5 := Lib.hid (And.intro hO5 hb5)
  clear hb4 j1 j2 j3 HPP HNV HX3 a0 a1 a2 a3 hO5 hb5 HSG
  go_wp2_with (go_at_call 21; refine (HLT.out _).mono ?_; rintro e w' ⟨rfl, rfl⟩)
  refine HSGw.out.mono ?_
  rintro e w6 ⟨rfl, hb6⟩
  have hO6 := (hb6.block w4.heap.size (Array.getElem?_eq_some_iff.1 HX5.out.1).1).trans HX5.out.1
  have hz6 : w4.heap.size < w6.heap.size := (Array.getElem?_eq_some_iff.1 hO6).1
  obtain ⟨g0, g1, g2, g3, g4, g5⟩ := three_atL hO6
  have hl6 : Below w4.heap.size w4 w6 := HX5.out.2.trans (hb6.mono HX5.out.2.size)
  have HO7 : Hid ((w6.setCell ⟨w4.heap.size, 0, none⟩ (S sg)).heap[w4.heap.size]? = some (.cells #[S sg, .slice none 0 0, .slice none 0 0] 25 (0, 0)) ∧ Below w4.heap.size w4 (w6.setCell ⟨w4.heap.size, 0, none⟩ (S sg)) ∧ (w6.setCell ⟨w4.heap.size, 0, none⟩ (S sg)).heap.size = w6.heap.size ∧ w4.heap.size < w6.heap.size) := Lib.hid ⟨by simp [World.setCell, Array.getElem?_modify, hO6], hl6.setCell (p := ⟨w4.heap.size, 0, none⟩) (Nat.le_refl _) _, by simp [World.setCell], hz6⟩
  clear hb6 hO6 hl6 HSGw HX5 hz6
  go_wp2_with fail
  have HST : Hid (HmR sg w4 w4.heap.size w6.heap.size [] [] (.slice none 0 0) (.slice none 0 0) (.slice (some ⟨w6.heap.size + 1, 0, none⟩) 1 1) ([beg].map (stZ N)) (fun _ => True) (((w6.setCell ⟨w4.heap.size, 0, none⟩ (S sg)).alloc (.cells #[.int .i64 (-1)] 3)).alloc (.cells #[.slice (some ⟨w6.heap.size, 0, none⟩) 1 1] 44))) := Lib.hid (by
    obtain ⟨q1, q2, q3, q4⟩ := HO7.out
    generalize w6.setCell ⟨w4.heap.size, 0, none⟩ (S sg) = w7 at *
    have hi := World.ownsRow_lit (base := w6.heap.size) (e := 3) (size := 1) w7 #[.int .i64 (-1)] 1 (by omega) (by decide) (by simp)
    have hs := World.ownsRow_lit (base := w6.heap.size) (e := 44) (size := 1) (w7.alloc (.cells #[.int .i64 (-1)] 3)) #[.slice (some ⟨w6.heap.size, 0, none⟩) 1 1] 1 (by simp; omega) (by decide) (by simp)
    rw [World.size_alloc, q3] at hs
    rw [q3] at hi
    have ho : OutR sg w4 w4.heap.size w6.heap.size [] [] (.slice none 0 0) (.slice none 0 0) (fun _ => True) w7 := ⟨q1, KY.nil _ _ _, World.ownsRow_nil _ _ _ _, q2, q4⟩
    refine ⟨(ho.alloc _).alloc _, ⟨[.slice (some ⟨w6.heap.size, 0, none⟩) 1 1], rfl, hs, fun j hj => ?_⟩, fun k _ e => by cases e⟩
    obtain rfl : j = 0 := by simpa using hj
    refine ⟨_, rfl, ?_, fun _ _ => trivial⟩
    have e : ro ([beg].map (stZ N)) 0 = [-1] := by unfold ro stZ; simp
    rw [e]
    exact hi.alloc _)
  have HG4 : Hid (w.heap.size < w4.heap.size ∧ w2.heap.size < w4.heap.size ∧ w4.heap.size < w6.heap.size) := Lib.hid ⟨HX4.out.2.2.1, HX4.out.2.2.2.1, HO7.out.2.2.2⟩
  clear HO7 g0 g1 g2 g3 g4 g5
  generalize ((w6.setCell ⟨w4.heap.size, 0, none⟩ (S sg)).alloc (.cells #[.int .i64 (-1)] 3)).alloc (.cells #[.slice (some ⟨w6.heap.size, 0, none⟩) 1 1] 44) = wS at *
  have HP0 : Hid (([beg] : List Nat) = (dfb t sg 0).met ∧ ([] : List (List Int)) = (dfb t sg 0).rows ∧ ([] : List Bool) = (dfb t sg 0).tks) := Lib.hid ⟨rfl, rfl, rfl⟩
  have HSP : Hid (Value.slice (some ⟨w6.heap.size + 1, 0, none⟩) 1 1 = Value.slice (some ⟨w6.heap.size + 1, 0, none⟩) 1 1) := Lib.hid rfl
  generalize w6.heap.size + 1 = gS at *
  generalize hD : w6.heap.size = D at *
  clear hD
  go_loopg [10, 11] 4097 (fun f sv iv wr => ∃ (a : Nat) (vN vT : Value) (met : List Nat) (R : List (List Int)) (T : List Bool), a + f = 4097 ∧ iv = .int .i64 (a : Int) ∧ Hid (met = (dfb t sg a).met ∧ R = (dfb t sg a).rows ∧ T = (dfb t sg a).tks) ∧ Hid (HmR sg w4 w4.heap.size D R T vN vT sv (met.map (stZ N)) (fun _ => True) wr))
  case atStart => exact ⟨0, _, _, _, _, _, by omega, rfl, HP0, HST⟩
  case round =>
    clear HST HP0 HSP
    obtain ⟨a, vN, vT, met, R, T, haf, rfl, HPD, HM⟩ := hrel
    have HOK : Hid (DfOk t sg a ⟨met, R, T⟩) := Lib.hid (by
      have h := dfb_ok t sg a
      obtain ⟨e1, e2, e3⟩ := HPD.out
      rw [e1, e2, e3]; exact h)
    have HMO : Hid (MetD (leaves t).length met) := Lib.hid HOK.out.met
    have HML : Hid (met.length ≤ 4097 ∧ R.length ≤ 4097 ∧ T.length ≤ 4097) := Lib.hid (by
      have h1 := HMO.out.len HN12.out
      have h2 := HOK.out.rl
      have h3 := HOK.out.tl
      have h2 : R.length = min a met.length := h2
      have h3 : T.length = min a met.length := h3
      omega)
    obtain ⟨AS, cS, hsv⟩ := HM.out.set.shape
    rw [List.length_map] at hsv
    subst hsv
    by_cases ha : a < met.length
    · obtain ⟨f, rfl⟩ : ∃ f, gk = f + 1 := ⟨gk - 1, by have := HML.out; omega⟩
      have HAL := Lib.hid ha
      have p1 : (a : Int) < (met.length : Int) := by omega
      have p2 : IntKind.i64.wrap ((a : Int) + 1) = (a : Int) + 1 := i64_in _ (by have := HML.out; omega)
      obtain ⟨m, HMM⟩ : ∃ m, Hid (m = met.getD a 0) := ⟨_, Lib.hid rfl⟩
      obtain ⟨K, HKK⟩ : ∃ K, Hid (K = stZ N m) := ⟨_, Lib.hid rfl⟩
      have HKL : Hid (K.length ≤ 12) := Lib.hid (by rw [HKK.out, HN.out]; exact stZ_len HN12.out)
      obtain ⟨bS, aK, nK, cK, hAS, cset, hKO, hnK⟩ := HM.out.set.at_ (k := a) ha
      subst hAS
      rw [ro_stZ ha, ← HMM.out, ← HKK.out] at hKO hnK
      subst hnK
      have HKO := Lib.hid hKO
      clear hKO
      by_cases h0a : a = 0
      · have hb0 : ((a : Int) == 0) = true := by simp; omega
        have hb1 : ¬ (0 : Int) < (a : Int) := by omega
        have hb2 : decide (0 < a) = false := by simp; omega
        have HMBG : Hid (m = beg) := Lib.hid (by rw [HMM.out, h0a]; exact HMO.out.at0)
        have HT0 : Hid (Value.bool (nul t) = .bool (tkS t m 0)) := Lib.hid (by rw [tkS_zero, decide_eq_true HMBG.out, Bool.true_and])
        obtain ⟨_, hnv, hpp⟩ := HRD.out wr HM.out.out.low
        obtain ⟨b0, b1, b2, b3, _, _, _, _⟩ := four_at hpp
        have HFF := Lib.hid (HF.out wr _ xs kk hnv HRP.out)
        clear hnv hpp h0a
        go_wp2_with fail
        refine HFF.out.mono ?_
        rintro e w7 ⟨rfl, hb7⟩
        have HM7 := Lib.hid (HM.out.belowI hb7)
        have HK7 := Lib.hid (own_belowI HKO.out hb7)
        clear hb7 HFF b0 b1 b2 b3 HM HKO
        go_wp2_with fail
        clear cset
        go_loopg [13, 14] K.length (fun f tv iv wx => ∃ i : Nat, i + f = K.length ∧ iv = .int .i64 (i : Int) ∧ tv = .bool (tkS t m i) ∧ Hid (Below w7.heap.size w7 wx))
        case atStart => exact ⟨0, by omega, rfl, HT0.out, Lib.hid (Below.refl _ _)⟩
        case round =>
          obtain ⟨i, hif, rfl, rfl, HB8⟩ := hrel
          have HM8 := Lib.hid (HM7.out.belowI HB8.out)
          by_cases hi : i < K.length
          · obtain ⟨f2, rfl⟩ : ∃ f, gk = f + 1 := ⟨gk - 1, by omega⟩
            have z1 : (i : Int) < (K.length : Int) := by omega
            have z2 : IntKind.i64.wrap ((i : Int) + 1) = (i : Int) + 1 := i64_in _ (by have := HKL.out; omega)
            obtain ⟨bq, oq, hq1, _, cq1⟩ := (ints_own2 (own_belowI HK7.out HB8.out)).at_ hi
            subst hq1
            have HST := Lib.hid (tkS_step (t := t) (m := m) (i := i) (z := gi K i) (by rw [← HN.out, ← HKK.out, gi_eq hi]; exact List.getElem?_eq_getElem hi))
            have HHA := Lib.hid (has3_any As ns cs w4.heap.size _ (gi K i) wr (HRD.out wr HM8.out.out.low).1.2.1 (by have h1 := (HRD.out wr HM8.out.out.low).1.2.1.1; have h2 := srt_lenP N (lsP t); rw [List.length_map] at h1; have := HN.out; have := HN12.out; omega))
            rw [← HN.out] at HST
            generalize decide (gi K i ∈ zs (srt N (lsP t))) = d at *
            generalize gi K i = z at *
            generalize tkS t m i = tk at *
            cases tk
            all_goals
              go_wp2_with (go_at_call 24; refine HHA.out.mono ?_; rintro e w' ⟨rfl, rfl⟩)
              go_roundg f2
              case measure => omega
              case rel => exact ⟨i + 1, by omega, by simp, by rw [HST.out]; simp, HB8⟩
          · obtain rfl : i = K.length := by omega
            have z1 : ¬ (K.length : Int) < (K.length : Int) := by omega
            have HTK := Lib.hid (tkS_end t m)
            rw [← HN.out, ← HKK.out] at HTK
            rw [HTK.out]
            clear HTK HT0
            have HK8 := Lib.hid (own_belowI HK7.out HB8.out)
            obtain ⟨tb, htb⟩ : ∃ tb, tb = tkM t m := ⟨_, rfl⟩
            rw [← htb]
            have HTB := Lib.hid htb
            clear htb
            obtain ⟨AT, cT, hvT, _⟩ := own_shape HM8.out.out.tks
            rw [List.length_map] at hvT
            subst hvT
            obtain ⟨d0, d1, d2, f0, f1, f2'⟩ := three_atL HM8.out.out.out
            have HDS : Hid (D ≤ wr.heap.size ∧ w4.heap.size < wr.heap.size) := Lib.hid ⟨by have h1 := (HK8.out.lt); have := HM8.out.set.lt (k := bS) rfl; omega, HM8.out.out.gt⟩
            have HTL : Hid ((T.map Value.bool).length ≤ 1000000) := Lib.hid (by rw [List.length_map]; have := HML.out; omega)
            go_wp2_with (at_builtin; refine wpList_append1g rfl (.tmp 72) (.tmp 74) _ rfl 4 i2 _ Tryz.underlying23 hi2 hx0 hx1 (by omega) rfl D (.slice AT T.length cT) (T.map Value.bool) (.bool tb) rfl rfl rfl HM8.out.out.tks HTL.out HDS.out.1 ?_; intro v11 w11 hown11 hgr11 hloc11; obtain ⟨A11, n11, c11, e11⟩ : ∃ A n c, v11 = .slice A n c := (by obtain ⟨A', c', e, _⟩ := own_shape hown11; exact ⟨A', _, c', e⟩); subst e11; have hOb : w11.heap[w4.heap.size]? = wr.heap[w4.heap.size]? := hgr11.block _ HDS.out.2 (fun e => by have h1 := own_lt HM8.out.out.tks e.symm; have := HM8.out.out.lt; omega); have s5 : w11.cell? ⟨w4.heap.size, 2, none⟩ = some (.slice AT T.length cT) := (World.cell?_of_block (a := ⟨w4.heap.size, 2, none⟩) hOb).trans d2; have s6 : w11.frozen? ⟨w4.heap.size, 2, none⟩ = false := (World.frozen?_of_block (a := ⟨w4.heap.size, 2, none⟩) hOb).trans f2')
            have HM9 := Lib.hid (HM8.out.addT (b := tb) hgr11 (by rw [List.map_append]; exact hown11))
            have HK9 := Lib.hid (HM8.out.out.keepT (v' := .slice A11 n11 c11) hgr11 (by decide) HK8.out)
            clear hown11 hgr11 hloc11 hOb s5 s6 d0 d1 d2 f0 f1 f2' HM8 HK8 HM7 HK7 HB8 HDS HTL
            generalize w11.setCell ⟨w4.heap.size, 2, none⟩ (.slice A11 n11 c11) = w9 at *
            have HS0 : Hid (HmR sg w4 w4.heap.size D R (T ++ [tb]) vN (.slice A11 n11 c11) (.slice (some ⟨bS, 0, none⟩) met.length cS) (met.map (stZ N)) (fun b => (Value.slice none 0 0).ownBlock ≠ some b) w9) := Lib.hid (HM9.out.weak fun b _ _ => by simp [Value.ownBlock])
            clear HM9
            go_loopg [10, 15, 16] sg.length (fun f sv rv kv wx => ∃ (k : Nat) (mt : List Nat) (row : List Int), k + f = sg.length ∧ kv = .int .i64 (k : Int) ∧ Hid ((mt, row) = rowD t sg m met k) ∧ Hid (HmR sg w4 w4.heap.size D R (T ++ [tb]) vN (.slice A11 n11 c11) sv (mt.map (stZ N)) (fun b => rv.ownBlock ≠ some b) wx) ∧ Hid (OwI wx D rv row) ∧ Hid (OwI wx D (.slice aK K.length cK) K ∧ ∀ k, (Value.slice aK K.length cK).ownBlock = some k → rv.ownBlock ≠ some k))
            case atStart => exact ⟨0, met, [], by omega, rfl, Lib.hid rfl, HS0, Lib.hid (World.ownsRow_nil _ _ _ _), Lib.hid ⟨HK9.out, fun k _ => by simp [Value.ownBlock]⟩⟩
            case round =>
              clear HS0 HK9
              obtain ⟨k, mt, row, hkf, rfl, HRW, HX, HRO, HKX⟩ := hrel
              have HMT : Hid (MetD (leaves t).length mt ∧ row.length = k) := Lib.hid (by
                have h := rowD_ok (sg := sg) (m := m) HMO.out k
                rw [← HRW.out] at h
                exact ⟨h.1, h.2.2⟩)
              obtain ⟨d0, d1, d2, f0, f1, f2'⟩ := three_atL HX.out.out.out
              by_cases hk : k < sg.length
              · obtain ⟨f2, rfl⟩ : ∃ f, gk = f + 1 := ⟨gk - 1, by omega⟩
                have HSTP : Hid (rowD t sg m met (k + 1) = (if mt.idxOf (toM t m (bu sg k)) = mt.length then mt ++ [toM t m (bu sg k)] else mt, row ++ [(mt.idxOf (toM t m (bu sg k)) : Int)])) := Lib.hid (by
                  have h : rowD t sg m met (k + 1) = (if (rowD t sg m met k).1.idxOf (toM t m (bu sg k)) = (rowD t sg m met k).1.length then (rowD t sg m met k).1 ++ [toM t m (bu sg k)] else (rowD t sg m met k).1, (rowD t sg m met k).2 ++ [((rowD t sg m met k).1.idxOf (toM t m (bu sg k)) : Int)]) := rfl
                  rw [← HRW.out] at h
                  exact h)
                have z1 : (k : Int) < (sg.length : Int) := by omega
                have z2 : IntKind.i64.wrap ((k : Int) + 1) = (k : Int) + 1 := i64_in _ (by have := HSGL.out; omega)
                have HKK2 := Lib.hid hk
                go_wp2_with fail
                clear d0 d1 d2 f0 f1 f2'
                generalize wr = wx at *
                go_loopg [17, 18] 0 (fun f cv iv wy => cv = .slice Af nf cf ∧ iv = .int .i64 0 ∧ Hid (Below wx.heap.size wx wy))
                case atStart => exact ⟨rfl, rfl, Lib.hid (Below.refl _ _)⟩
                case round =>
                  obtain ⟨rfl, rfl, HBX⟩ := hrel
                  have hK1 : K.length = 1 := by rw [HKK.out, HMBG.out]; unfold stZ; simp
                  have y1 : (0 : Int) < (K.length : Int) := by omega
                  clear hK1
                  obtain ⟨C, HC⟩ : ∃ C, Hid (C = srt N (fsP t)) := ⟨_, Lib.hid rfl⟩
                  have HCE : Hid ((∃ k', (plM (leaves t).length m).length ≤ k' ∧ C = canP t m k') ∧ C.length ≤ 1000) := Lib.hid ⟨⟨12, Nat.le_trans (plM_len _ _) HN12.out, by rw [HC.out]; unfold canP; rw [if_pos HMBG.out, HN.out]⟩, by rw [HC.out]; have := srt_lenP N (fsP t); have := HN.out; have := HN12.out; omega⟩
                  have HX4 := Lib.hid (HX.out.belowI HBX.out)
                  have HCI : Hid (Ints wr wr.heap.size Af nf (zs C)) := Lib.hid (by rw [HC.out]; exact (HRD.out wr HX4.out.out.low).1.1.more HX4.out.out.low.size)
                  generalize Af = AC at *
                  generalize nf = nC at *
                  generalize cf = cC at *
                  have HRO4 := Lib.hid (own_belowI HRO.out HBX.out)
                  have HKX4 : Hid (OwI wr D (.slice aK K.length cK) K ∧ ∀ k, (Value.slice aK K.length cK).ownBlock = some k → u15.ownBlock ≠ some k) := Lib.hid ⟨own_belowI HKX.out.1 HBX.out, HKX.out.2⟩
                  clear HX HRO HKX HBX HC
                  go_wp2_with fail
                  clear hb2
                  clear hb0 hb1
                  generalize wr = w5 at *
                  go_loopg [19, 20] (leaves t).length (fun f tv iv wz => ∃ i : Nat, i + f = (leaves t).length ∧ iv = .int .i64 (i : Int) ∧ Hid (OwI wz w5.heap.size tv (zs (toP t (bu sg k) C i))) ∧ Hid (Below w5.heap.size w5 wz))
                  case atStart => exact ⟨0, by omega, rfl, Lib.hid (World.ownsRow_nil _ _ _ _), Lib.hid (Below.refl _ _)⟩
                  case round =>
                    obtain ⟨i5, hif, rfl, HTO, HB6⟩ := hrel
                    have HX5 := Lib.hid (HX4.out.belowI HB6.out)
                    obtain ⟨d0, d1, d2, f0, f1, f2'⟩ := three_atL HX5.out.out.out
                    refine (Nat.lt_or_ge i5 (leaves t).length).elim (fun hi => ?_) (fun hi => ?_)
                    · obtain ⟨f3, rfl⟩ : ∃ f, gk = f + 1 := ⟨gk - 1, by omega⟩
                      have y1 : (i5 : Int) < ((leaves t).length : Int) := by omega
                      have y2 : IntKind.i64.wrap ((i5 : Int) + 1) = (i5 : Int) + 1 := i64_in _ (by have := HN12.out; omega)
                      have HTS := Lib.hid (toP_step t (bu sg k) C i5)
                      have HTL : Hid (((zs (toP t (bu sg k) C i5)).map (Value.int .i64)).length ≤ 1000000) := Lib.hid (by rw [List.length_map, List.length_map]; have := toP_len t (bu sg k) C i5; have := HN12.out; omega)
                      have heb := same_decL (bu (leaves t) i5) (bu sg k)
                      have hd : decide ((i5 : Int) ∈ zs C) = decide (i5 ∈ C) := by rw [Bool.eq_iff_iff, decide_eq_true_eq, decide_eq_true_eq, mem_zsP]
                      have HHA : Hid (∀ r, Calls Tryz.prog 24 #[.slice AC nC cC, .int .i64 (i5 : Int)] (wr.drewN r) fun e w' => e = .returned (.bool (decide (i5 ∈ C))) ∧ w' = wr.drewN r) := Lib.hid (fun r => (has3_any AC nC cC w5.heap.size (zs C) (i5 : Int) (wr.drewN r) ((HCI.out.below HB6.out).drewN r) (by rw [← HCI.out.1, List.length_map]; have := HCE.out.2; omega)).mono fun e w' h => ⟨by rw [h.1, hd], h.2.symm⟩)
                      clear hd
                      generalize decide (i5 ∈ C) = dd at *
                      generalize decide (bu (leaves t) i5 = bu sg k) = ee at *
                      obtain ⟨TI, hTI⟩ : ∃ TI, TI = toP t (bu sg k) C i5 := ⟨_, rfl⟩
                      rw [← hTI] at HTO HTS HTL
                      clear hTI
                      cases ee
                      · go_wp2_with fail
                        go_quiet (fail)
                        go_wp2_with fail
                        go_roundg f3
                        case measure => omega
                        case rel => exact ⟨i5 + 1, by omega, by simp, by rw [HTS.out, if_neg (by simp)]; exact HTO, Lib.hid (below_drewN HB6.out _)⟩
                      · cases dd
                        · go_wp2_with fail
                          go_quiet ((go_at_call 24; exact Calls.quiet_of_same (HHA.out _)))
                          go_wp2_with fail
                          go_roundg f3
                          case measure => omega
                          case rel => exact ⟨i5 + 1, by omega, by simp, by rw [HTS.out, if_neg (by simp)]; exact HTO, Lib.hid (below_drewN HB6.out _)⟩
                        · go_wp2_with fail
                          go_quiet ((go_at_call 24; exact Calls.quiet_of_same (HHA.out _)))
                          go_wp2_with (at_builtin; refine wpList_append1g rfl (.tmp 125) (.tmp 127) _ rfl 3 i0 _ Tryz.underlying44 hi0 hz0 hz1 (by omega) rfl w5.heap.size _ ((zs TI).map (Value.int .i64)) (.int .i64 (i5 : Int)) rfl rfl rfl HTO.out HTL.out HB6.out.size ?_; intro v9 w9 hown9 hgr9 hloc9; have HB9 := Lib.hid ((below_drewN HB6.out _).grown hgr9 HB6.out.size (fun k hk => own_lt HTO.out hk)); have HTO9 := Lib.hid hown9; clear hown9 hgr9 hloc9)
                          go_roundg f3
                          case measure => omega
                          case rel => exact ⟨i5 + 1, by omega, by simp, by rw [HTS.out, if_pos (by simp)]; exact Lib.hid (by have h := HTO9.out; simpa [OwI] using h), HB9⟩
                    have hie : i5 = (leaves t).length := by omega
                    have y1 : ¬ (i5 : Int) < ((leaves t).length : Int) := by omega
                    have HTG : Hid (zs (toP t (bu sg k) C i5) = stZ N (toM t m (bu sg k))) := Lib.hid (by
                      obtain ⟨⟨k', hk', hC⟩, _⟩ := HCE.out
                      rw [hie, hC, HN.out]; exact toP_endZ HN12.out _ hk')
                    have HTP : Hid (toM t m (bu sg k) < 2 ^ (leaves t).length) := Lib.hid toM_pow
                    rw [HTG.out] at HTO
                    have HRO6 := Lib.hid (own_belowI HRO4.out HB6.out)
                    have HKX6 : Hid (OwI wr D (.slice aK K.length cK) K ∧ ∀ k, (Value.slice aK K.length cK).ownBlock = some k → u15.ownBlock ≠ some k) := Lib.hid ⟨own_belowI HKX4.out.1 HB6.out, HKX4.out.2⟩
                    have HD5 : Hid (D ≤ w5.heap.size ∧ ∀ k, u15.ownBlock = some k → k < w5.heap.size) := Lib.hid ⟨by obtain ⟨g, e⟩ := HX4.out.set.at0 HMT.out.1.pos; have := HX4.out.set.lt (k := g) e; omega, fun k hk => (HRO4.out.lt k hk).2⟩
                    obtain ⟨AM, cM, hsv⟩ := HX5.out.set.shape
                    rw [List.length_map] at hsv
                    subst hsv
                    obtain ⟨TK, HTK⟩ : ∃ TK, Hid (TK = stZ N (toM t m (bu sg k))) := ⟨_, Lib.hid rfl⟩
                    rw [← HTK.out] at HTO
                    obtain ⟨A6, c6, hTv, _⟩ := own_shape HTO.out
                    rw [List.length_map] at hTv
                    subst hTv
                    generalize toM t m (bu sg k) = TG at *
                    clear d0 d1 d2 f0 f1 f2' HTG hi hie HCI HCE HX4 HRO4 HKX4
                    go_wp2_with fail
                    generalize wr = w6 at *
                    go_loopg [21] mt.length (fun f nv wz => ∃ q : Nat, q + f = mt.length ∧ nv = .int .i64 (q : Int) ∧ Hid (∀ j, j < q → mt.getD j 0 ≠ TG) ∧ Hid (Below w6.heap.size w6 wz))
                    case atStart => exact ⟨0, by omega, rfl, Lib.hid fun j hj => absurd hj (by omega), Lib.hid (Below.refl _ _)⟩
                    case round =>
                      obtain ⟨q, hqf, rfl, HQN, HB7⟩ := hrel
                      have HX7 := Lib.hid (HX5.out.belowI HB7.out)
                      have HTO7 := Lib.hid (own_belowI HTO.out HB7.out)
                      have HRO7 := Lib.hid (own_belowI HRO6.out HB7.out)
                      have HKX7 : Hid (OwI wr D (.slice aK K.length cK) K ∧ ∀ k, (Value.slice aK K.length cK).ownBlock = some k → u15.ownBlock ≠ some k) := Lib.hid ⟨own_belowI HKX6.out.1 HB7.out, HKX6.out.2⟩
                      by_cases hq : q < mt.length
                      · obtain ⟨f4, rfl⟩ : ∃ f, gk = f + 1 := ⟨gk - 1, by omega⟩
                        obtain ⟨bM, aQ, nQ, cQ, hAM, cq1, hQo, hnQ⟩ := HX7.out.set.at_ (k := q) hq
                        subst hAM
                        rw [ro_stZ hq] at hQo hnQ
                        have HSM := Lib.hid (smZ_any aQ A6 nQ TK.length cQ c6 wr.heap.size _ _ wr (ints_own2 hQo) (ints_own2 HTO7.out) (by have := stZ_len (n := N) (m := mt.getD q 0) (by have := HN.out; have := HN12.out; omega); omega))
                        have y3 : IntKind.i64.wrap ((q : Int) + 1) = (q : Int) + 1 := i64_in _ (by have := HMT.out.1.len HN12.out; omega)
                        have y4 : (q : Int) < (mt.length : Int) := by omega
                        have y5 : ((q : Int) == (mt.length : Int)) = false := by simp; omega
                        have HRWL : Hid ((row.map (Value.int .i64)).length ≤ 1000000) := Lib.hid (by rw [List.length_map]; have := HMT.out.2; have := HSGL.out; omega)
                        have HDS7 : Hid (D ≤ wr.heap.size) := Lib.hid (by have h1 := HD5.out.1; have h2 := HB6.out.size; have h3 := HB7.out.size; omega)
                        by_cases he : mt.getD q 0 = TG
                        · have hd : decide (stZ N (mt.getD q 0) = TK) = true := decide_eq_true (by rw [he, HTK.out])
                          rw [hd] at HSM
                          have hidx := idx_someS HQN.out hq he
                          rw [hidx, if_neg (by omega)] at HSTP
                          clear hd hidx he HQN hnQ hQo
                          go_wp2_with fail
                          refine HSM.out.mono ?_
                          rintro e w8 ⟨rfl, r, rfl⟩
                          go_wp2_with (at_builtin; refine wpList_append1g rfl (.tmp 152) (.tmp 154) _ rfl 3 i0 _ Tryz.underlying44 hi0 hz0 hz1 (by omega) rfl D _ (row.map (Value.int .i64)) (.int .i64 (q : Int)) rfl rfl rfl HRO7.out HRWL.out HDS7.out ?_; intro v9 w9 hown9 hgr9 hloc9)
                          have hxr := (HX7.out.belowI (below_drewN (Below.refl wr.heap.size wr) r)).addR (w' := w9) (x := (q : Int)) HRO7.out hgr9 hloc9 hown9
                          have HXR := Lib.hid hxr
                          have HKR := Lib.hid (own_addR (w := wr.drewN r) (w' := w9) HKX7.out hgr9 hloc9)
                          clear hown9 hgr9 hloc9 hxr HX7 HX5 HTO7 HTO HRO7 HKX7 HSM cq1
                          go_roundg f2
                          case measure => omega
                          case rel => exact ⟨k + 1, mt, row ++ [(q : Int)], by omega, by simp, Lib.hid HSTP.out.symm, Lib.hid HXR.out.1, Lib.hid HXR.out.2, HKR⟩
                        · have hd : decide (stZ N (mt.getD q 0) = TK) = false := decide_eq_false (fun e => he (stZ_inj (by rw [HN.out]; exact HMT.out.1.mem hq) (.inr (by rw [HN.out]; exact HTP.out)) (e.trans HTK.out)))
                          rw [hd] at HSM
                          have HQ2 : Hid (∀ j, j < q + 1 → mt.getD j 0 ≠ TG) := Lib.hid fun j hj => by
                            rcases Nat.lt_or_ge j q with hl | hl
                            · exact HQN.out j hl
                            · obtain rfl : j = q := by omega
                              exact he
                          clear hd he HQN hnQ hQo
                          go_wp2_with fail
                          refine HSM.out.mono ?_
                          rintro e w8 ⟨rfl, r, rfl⟩
                          go_wp2_with fail
                          go_roundg f4
                          case measure => omega
                          case rel => exact ⟨q + 1, by omega, by simp, HQ2, Lib.hid (below_drewN HB7.out _)⟩
                      · have hqe : q = mt.length := by omega
                        have hidx := idx_noneS (met := mt) (t := TG) (fun j hj => HQN.out j (by omega))
                        rw [hidx, if_pos rfl] at HSTP
                        have y4 : ¬ (mt.length : Int) < (mt.length : Int) := by omega
                        have y5 : ((mt.length : Int) == (mt.length : Int)) = true := by simp
                        have HRWL : Hid ((row.map (Value.int .i64)).length ≤ 1000000) := Lib.hid (by rw [List.length_map]; have := HMT.out.2; have := HSGL.out; omega)
                        have HDS7 : Hid (D ≤ wr.heap.size) := Lib.hid (by have h1 := HD5.out.1; have h2 := HB6.out.size; have h3 := HB7.out.size; omega)
                        obtain ⟨KC, hk1, hk2, hk3⟩ := HX7.out.set
                        have HK1 := Lib.hid hk1; have HK2 := Lib.hid hk2; have HK3 := Lib.hid hk3
                        have HKCL : Hid (KC.length ≤ 1000000) := Lib.hid (by rw [hk1, List.length_map]; have := HMT.out.1.len HN12.out; omega)
                        have HTO8 : Hid (OwI wr D (.slice A6 TK.length c6) TK) := Lib.hid (own_low HTO7.out HD5.out.1)
                        have HOKT : Hid (∀ k, (Value.slice A6 TK.length c6).ownBlock = some k → u15.ownBlock ≠ some k) := Lib.hid (fun k hk e => by have h1 := own_lt HTO7.out hk; have h2 := HD5.out.2 k e; omega)
                        clear hidx HQN hk1 hk2 hk3
                        subst hqe
                        go_wp2_with (first
                          | (at_builtin; refine wpList_append1g rfl (.tmp 148) (.tmp 150) _ rfl 44 i1 _ Tryz.underlying22 hi1 hy0 hy1 (by omega) rfl D _ KC (.slice A6 TK.length c6) rfl rfl rfl HK2.out HKCL.out HDS7.out ?_; intro v8 w8 hown8 hgr8 hloc8; have HX8 := Lib.hid (HX7.out.addS HK1.out HK2.out HK3.out HTO8.out HOKT.out hgr8 hloc8 hown8); have HRO8 := Lib.hid (own_int_rows HRO7.out (.inr fun k hk => HX7.out.set.type hk) hgr8); have HKX8 : Hid (OwI w8 D (.slice aK K.length cK) K ∧ ∀ k, (Value.slice aK K.length cK).ownBlock = some k → u15.ownBlock ≠ some k) := Lib.hid ⟨own_int_rows HKX7.out.1 (.inr fun k hk => HX7.out.set.type hk) hgr8, HKX7.out.2⟩; have HDS8 : Hid (D ≤ w8.heap.size) := Lib.hid (Nat.le_trans HDS7.out hgr8.size); clear hown8 hgr8 hloc8)
                          | (at_builtin; refine wpList_append1g rfl (.tmp 152) (.tmp 154) _ rfl 3 i0 _ Tryz.underlying44 hi0 hz0 hz1 (by omega) rfl D _ (row.map (Value.int .i64)) (.int .i64 (mt.length : Int)) rfl rfl rfl HRO8.out HRWL.out HDS8.out ?_; intro v9 w9 hown9 hgr9 hloc9))
                        have hxr := HX8.out.addR (w' := w9) (x := (mt.length : Int)) HRO8.out hgr9 hloc9 hown9
                        have HXR := Lib.hid hxr
                        have HKR := Lib.hid (own_addR (w := w8) (w' := w9) HKX8.out hgr9 hloc9)
                        clear hown9 hgr9 hloc9 hxr HX7 HX5 HTO7 HTO HRO7 HKX7 HX8 HRO8 HKX8 HDS8 HTO8 HOKT HK1 HK2 HK3
                        go_roundg f2
                        case measure => omega
                        case rel => exact ⟨k + 1, mt ++ [TG], row ++ [(mt.length : Int)], by omega, by simp, Lib.hid HSTP.out.symm, Lib.hid (by rw [List.map_append, List.map_singleton, ← HTK.out]; exact HXR.out.1), Lib.hid HXR.out.2, HKR⟩
              · have hke : k = sg.length := by omega
                have z1 : ¬ (k : Int) < (sg.length : Int) := by omega
                have HNXT : Hid (mt = (dfb t sg (a + 1)).met ∧ R ++ [row] = (dfb t sg (a + 1)).rows ∧ T ++ [tb] = (dfb t sg (a + 1)).tks) := Lib.hid (by
                  obtain ⟨e1, e2, e3⟩ := HPD.out
                  have h := dfb_succ t sg a
                  have hr := HRW.out
                  rw [hke] at hr
                  rw [← e1, ← e2, ← e3, if_pos HAL.out, ← HMM.out, ← hr, ← HTB.out] at h
                  rw [h]; exact ⟨rfl, rfl, rfl⟩)
                have HW := Lib.hid (HX.out.weak (ok' := fun _ => True) (fun b _ _ => trivial))
                obtain ⟨AN, cN, hvN⟩ := HW.out.out.rows.shape
                subst hvN
                obtain ⟨AR, cR, hvR, _⟩ := own_shape HRO.out
                rw [List.length_map] at hvR
                subst hvR
                obtain ⟨KC, hk1, hk2, hk3⟩ := HW.out.out.rows
                have HK1 := Lib.hid hk1; have HK2 := Lib.hid hk2; have HK3 := Lib.hid hk3
                have HKCL : Hid (KC.length ≤ 1000000) := Lib.hid (by rw [hk1]; have := HML.out; omega)
                have HDS7 : Hid (D ≤ wr.heap.size ∧ w4.heap.size < wr.heap.size) := Lib.hid ⟨by obtain ⟨g, e⟩ := HX.out.set.at0 HMT.out.1.pos; have := HX.out.set.lt (k := g) e; omega, HX.out.out.gt⟩
                clear hk1 hk2 hk3 HX HKX hke
                go_wp2_with (at_builtin; refine wpList_append1g rfl (.tmp 157) (.tmp 159) _ rfl 44 i1 _ Tryz.underlying22 hi1 hy0 hy1 (by omega) rfl D (.slice AN R.length cN) KC (.slice AR row.length cR) rfl rfl rfl HK2.out HKCL.out HDS7.out.1 ?_; intro v12 w12 hown12 hgr12 hloc12; obtain ⟨A12, n12, c12, e12⟩ : ∃ A n c, v12 = .slice A n c := (by obtain ⟨A', c', e, _⟩ := own_shape hown12; exact ⟨A', _, c', e⟩); subst e12; have hOb : w12.heap[w4.heap.size]? = wr.heap[w4.heap.size]? := hgr12.block _ HDS7.out.2 (fun e => by have h1 := HW.out.out.rows.lt e.symm; have := HW.out.out.lt; omega); have s5 : w12.cell? ⟨w4.heap.size, 1, none⟩ = some (.slice AN R.length cN) := (World.cell?_of_block (a := ⟨w4.heap.size, 1, none⟩) hOb).trans d1; have s6 : w12.frozen? ⟨w4.heap.size, 1, none⟩ = false := (World.frozen?_of_block (a := ⟨w4.heap.size, 1, none⟩) hOb).trans f1)
                have HNX := Lib.hid (HW.out.addN (K := row) HK1.out HK2.out HK3.out HRO.out (fun _ _ => trivial) hgr12 hloc12 hown12)
                clear hown12 hgr12 hloc12 hOb s5 s6 d0 d1 d2 f0 f1 f2' HW HDS7 HK1 HK2 HK3 HRO
                go_roundg f
                case measure => omega
                case rel => exact ⟨a + 1, _, _, mt, _, _, by omega, by simp, HNXT, HNX⟩
      · have hb0 : ((a : Int) == 0) = false := by simp; omega
        have hb1 : (0 : Int) < (a : Int) := by omega
        have HMBG : Hid (m ≠ beg) := Lib.hid (by rw [HMM.out]; exact HMO.out.atS (by omega) HAL.out)
        have HT0 : Hid (Value.bool false = .bool (tkS t m 0)) := Lib.hid (by rw [tkS_zero, decide_eq_false HMBG.out, Bool.false_and])
        have HM7 := HM
        have HK7 := HKO
        clear HM h0a HKO
        go_wp2_with fail
        clear cset
        generalize wr = w7 at *
        go_loopg [13, 14] K.length (fun f tv iv wx => ∃ i : Nat, i + f = K.length ∧ iv = .int .i64 (i : Int) ∧ tv = .bool (tkS t m i) ∧ Hid (Below w7.heap.size w7 wx))
        case atStart => exact ⟨0, by omega, rfl, HT0.out, Lib.hid (Below.refl _ _)⟩
        case round =>
          obtain ⟨i, hif, rfl, rfl, HB8⟩ := hrel
          have HM8 := Lib.hid (HM7.out.belowI HB8.out)
          by_cases hi : i < K.length
          · obtain ⟨f2, rfl⟩ : ∃ f, gk = f + 1 := ⟨gk - 1, by omega⟩
            have z1 : (i : Int) < (K.length : Int) := by omega
            have z2 : IntKind.i64.wrap ((i : Int) + 1) = (i : Int) + 1 := i64_in _ (by have := HKL.out; omega)
            obtain ⟨bq, oq, hq1, _, cq1⟩ := (ints_own2 (own_belowI HK7.out HB8.out)).at_ hi
            subst hq1
            have HST := Lib.hid (tkS_step (t := t) (m := m) (i := i) (z := gi K i) (by rw [← HN.out, ← HKK.out, gi_eq hi]; exact List.getElem?_eq_getElem hi))
            have HHA := Lib.hid (has3_any As ns cs w4.heap.size _ (gi K i) wr (HRD.out wr HM8.out.out.low).1.2.1 (by have h1 := (HRD.out wr HM8.out.out.low).1.2.1.1; have h2 := srt_lenP N (lsP t); rw [List.length_map] at h1; have := HN.out; have := HN12.out; omega))
            rw [← HN.out] at HST
            generalize decide (gi K i ∈ zs (srt N (lsP t))) = d at *
            generalize gi K i = z at *
            generalize tkS t m i = tk at *
            cases tk
            all_goals
              go_wp2_with (go_at_call 24; refine HHA.out.mono ?_; rintro e w' ⟨rfl, rfl⟩)
              go_roundg f2
              case measure => omega
              case rel => exact ⟨i + 1, by omega, by simp, by rw [HST.out]; simp, HB8⟩
          · obtain rfl : i = K.length := by omega
            have z1 : ¬ (K.length : Int) < (K.length : Int) := by omega
            have HTK := Lib.hid (tkS_end t m)
            rw [← HN.out, ← HKK.out] at HTK
            rw [HTK.out]
            clear HTK HT0
            have HK8 := Lib.hid (own_belowI HK7.out HB8.out)
            obtain ⟨tb, htb⟩ : ∃ tb, tb = tkM t m := ⟨_, rfl⟩
            rw [← htb]
            have HTB := Lib.hid htb
            clear htb
            obtain ⟨AT, cT, hvT, _⟩ := own_shape HM8.out.out.tks
            rw [List.length_map] at hvT
            subst hvT
            obtain ⟨d0, d1, d2, f0, f1, f2'⟩ := three_atL HM8.out.out.out
            have HDS : Hid (D ≤ wr.heap.size ∧ w4.heap.size < wr.heap.size) := Lib.hid ⟨by have h1 := (HK8.out.lt); have := HM8.out.set.lt (k := bS) rfl; omega, HM8.out.out.gt⟩
            have HTL : Hid ((T.map Value.bool).length ≤ 1000000) := Lib.hid (by rw [List.length_map]; have := HML.out; omega)
            go_wp2_with (at_builtin; refine wpList_append1g rfl (.tmp 72) (.tmp 74) _ rfl 4 i2 _ Tryz.underlying23 hi2 hx0 hx1 (by omega) rfl D (.slice AT T.length cT) (T.map Value.bool) (.bool tb) rfl rfl rfl HM8.out.out.tks HTL.out HDS.out.1 ?_; intro v11 w11 hown11 hgr11 hloc11; obtain ⟨A11, n11, c11, e11⟩ : ∃ A n c, v11 = .slice A n c := (by obtain ⟨A', c', e, _⟩ := own_shape hown11; exact ⟨A', _, c', e⟩); subst e11; have hOb : w11.heap[w4.heap.size]? = wr.heap[w4.heap.size]? := hgr11.block _ HDS.out.2 (fun e => by have h1 := own_lt HM8.out.out.tks e.symm; have := HM8.out.out.lt; omega); have s5 : w11.cell? ⟨w4.heap.size, 2, none⟩ = some (.slice AT T.length cT) := (World.cell?_of_block (a := ⟨w4.heap.size, 2, none⟩) hOb).trans d2; have s6 : w11.frozen? ⟨w4.heap.size, 2, none⟩ = false := (World.frozen?_of_block (a := ⟨w4.heap.size, 2, none⟩) hOb).trans f2')
            have HM9 := Lib.hid (HM8.out.addT (b := tb) hgr11 (by rw [List.map_append]; exact hown11))
            have HK9 := Lib.hid (HM8.out.out.keepT (v' := .slice A11 n11 c11) hgr11 (by decide) HK8.out)
            clear hown11 hgr11 hloc11 hOb s5 s6 d0 d1 d2 f0 f1 f2' HM8 HK8 HM7 HK7 HB8 HDS HTL
            generalize w11.setCell ⟨w4.heap.size, 2, none⟩ (.slice A11 n11 c11) = w9 at *
            have HS0 : Hid (HmR sg w4 w4.heap.size D R (T ++ [tb]) vN (.slice A11 n11 c11) (.slice (some ⟨bS, 0, none⟩) met.length cS) (met.map (stZ N)) (fun b => (Value.slice none 0 0).ownBlock ≠ some b) w9) := Lib.hid (HM9.out.weak fun b _ _ => by simp [Value.ownBlock])
            clear HM9
            go_loopg [10, 15, 16] sg.length (fun f sv rv kv wx => ∃ (k : Nat) (mt : List Nat) (row : List Int), k + f = sg.length ∧ kv = .int .i64 (k : Int) ∧ Hid ((mt, row) = rowD t sg m met k) ∧ Hid (HmR sg w4 w4.heap.size D R (T ++ [tb]) vN (.slice A11 n11 c11) sv (mt.map (stZ N)) (fun b => rv.ownBlock ≠ some b) wx) ∧ Hid (OwI wx D rv row) ∧ Hid (OwI wx D (.slice aK K.length cK) K ∧ ∀ k, (Value.slice aK K.length cK).ownBlock = some k → rv.ownBlock ≠ some k))
            case atStart => exact ⟨0, met, [], by omega, rfl, Lib.hid rfl, HS0, Lib.hid (World.ownsRow_nil _ _ _ _), Lib.hid ⟨HK9.out, fun k _ => by simp [Value.ownBlock]⟩⟩
            case round =>
              clear HS0 HK9
              obtain ⟨k, mt, row, hkf, rfl, HRW, HX, HRO, HKX⟩ := hrel
              have HMT : Hid (MetD (leaves t).length mt ∧ row.length = k) := Lib.hid (by
                have h := rowD_ok (sg := sg) (m := m) HMO.out k
                rw [← HRW.out] at h
                exact ⟨h.1, h.2.2⟩)
              obtain ⟨d0, d1, d2, f0, f1, f2'⟩ := three_atL HX.out.out.out
              by_cases hk : k < sg.length
              · obtain ⟨f2, rfl⟩ : ∃ f, gk = f + 1 := ⟨gk - 1, by omega⟩
                have HSTP : Hid (rowD t sg m met (k + 1) = (if mt.idxOf (toM t m (bu sg k)) = mt.length then mt ++ [toM t m (bu sg k)] else mt, row ++ [(mt.idxOf (toM t m (bu sg k)) : Int)])) := Lib.hid (by
                  have h : rowD t sg m met (k + 1) = (if (rowD t sg m met k).1.idxOf (toM t m (bu sg k)) = (rowD t sg m met k).1.length then (rowD t sg m met k).1 ++ [toM t m (bu sg k)] else (rowD t sg m met k).1, (rowD t sg m met k).2 ++ [((rowD t sg m met k).1.idxOf (toM t m (bu sg k)) : Int)]) := rfl
                  rw [← HRW.out] at h
                  exact h)
                have z1 : (k : Int) < (sg.length : Int) := by omega
                have z2 : IntKind.i64.wrap ((k : Int) + 1) = (k : Int) + 1 := i64_in _ (by have := HSGL.out; omega)
                have HKK2 := Lib.hid hk
                go_wp2_with fail
                clear d0 d1 d2 f0 f1 f2'
                generalize wr = wx at *
                go_loopg [17, 18] K.length (fun f cv iv wy => ∃ (i : Nat) (AC : Option Addr) (nC cC : Nat), i + f = K.length ∧ cv = .slice AC nC cC ∧ iv = .int .i64 (i : Int) ∧ Hid (Ints wy wy.heap.size AC nC (zs (canP t m i))) ∧ Hid (Below wx.heap.size wx wy))
                case atStart => exact ⟨0, none, 0, 0, by omega, rfl, rfl, Lib.hid (by rw [canP_zero HMBG.out]; exact Ints.nil_ _ _ _), Lib.hid (Below.refl _ _)⟩
                case round =>
                  obtain ⟨i, AC, nC, cC, hif, rfl, rfl, HCI, HBX⟩ := hrel
                  have HX4 := Lib.hid (HX.out.belowI HBX.out)
                  have hKP : K = zs (plM N m) := by rw [HKK.out]; unfold stZ; rw [if_neg HMBG.out]
                  have HKP := Lib.hid hKP
                  clear hKP
                  refine (Nat.lt_or_ge i K.length).elim (fun hi => ?_) (fun hi => ?_)
                  · obtain ⟨f3, rfl⟩ : ∃ f, gk = f + 1 := ⟨gk - 1, by omega⟩
                    have y1 : (i : Int) < (K.length : Int) := by omega
                    have y2 : IntKind.i64.wrap ((i : Int) + 1) = (i : Int) + 1 := i64_in _ (by have := HKL.out; omega)
                    obtain ⟨x, hx⟩ : ∃ x, (plM N m)[i]? = some x := ⟨_, List.getElem?_eq_getElem (by have := hi; rw [HKP.out, List.length_map] at this; exact this)⟩
                    have hgx : gi K i = (x : Int) := by unfold gi; rw [HKP.out, List.getElem?_map, hx]; rfl
                    have hxn : x < N := (mem_plM.1 (List.mem_of_getElem? hx)).1
                    obtain ⟨bq, oq, hq1, _, cq1⟩ := (ints_own2 (own_belowI HKX.out.1 HBX.out)).at_ hi
                    subst hq1
                    rw [hgx] at cq1
                    have hnx := (HRD.out wr HX4.out.out.low).1.2.2
                    have hnq : nq = N := by rw [← hnx.1]; simp [nxL]
                    obtain ⟨bn, on, an, mn, cn, hqn, _, cn1, hIn⟩ := hnx.at_ (k := x) (by omega)
                    subst hqn
                    rw [ro_nxL hxn] at hIn
                    have HCS := Lib.hid (canP_step HMBG.out (by rw [← HN.out]; exact hx))
                    rw [← HN.out] at HCS
                    have HJ := Lib.hid (joinR_any AC an nC mn cC cn (canP t m i) (nxN N t x) wr HCI.out (hIn.more HX4.out.out.low.size) (by have h1 := canP_len (t := t) (m := m) HN12.out i; have h2 := nxN_len N t x; have := HKL.out; have := HN.out; have := HN12.out; omega))
                    have y3 : (0 : Int) ≤ (x : Int) := by omega
                    have y4 : (x : Int) < (nq : Int) := by omega
                    clear hx hgx hxn hnx hIn hnq
                    generalize canP t m i = C0 at *
                    generalize nxN N t x = E0 at *
                    go_wp2_with fail
                    refine HJ.out.mono ?_
                    rintro e w5 ⟨⟨A5, c5, rfl, hi5⟩, hb5⟩
                    obtain ⟨n5, hn5⟩ : ∃ n, n = (C0 ++ E0).length := ⟨_, rfl⟩
                    rw [← hn5] at hi5 ⊢
                    have HI5 := Lib.hid hi5
                    have HB5 := Lib.hid (HBX.out.trans (hb5.mono HBX.out.size))
                    clear hi5 hb5 hn5 HJ cq1 cn1
                    go_wp2_with fail
                    go_roundg f3
                    case measure => omega
                    case rel => exact ⟨i + 1, A5, n5, c5, by omega, rfl, by simp, by rw [HCS.out]; exact HI5, HB5⟩
                  have hie : i = K.length := by omega
                  have y1 : ¬ (i : Int) < (K.length : Int) := by omega
                  obtain ⟨C, HC⟩ : ∃ C, Hid (C = canP t m i) := ⟨_, Lib.hid rfl⟩
                  have HCE : Hid ((∃ k', (plM (leaves t).length m).length ≤ k' ∧ C = canP t m k') ∧ C.length ≤ 1000) := Lib.hid ⟨⟨i, by rw [hie, HKP.out, List.length_map, HN.out]; exact Nat.le_refl _, HC.out⟩, by rw [HC.out]; have := canP_len (t := t) (m := m) HN12.out i; have := HKL.out; omega⟩
                  rw [← HC.out] at HCI
                  clear hi hie
                  have HRO4 := Lib.hid (own_belowI HRO.out HBX.out)
                  have HKX4 : Hid (OwI wr D (.slice aK K.length cK) K ∧ ∀ k, (Value.slice aK K.length cK).ownBlock = some k → u15.ownBlock ≠ some k) := Lib.hid ⟨own_belowI HKX.out.1 HBX.out, HKX.out.2⟩
                  clear HX HRO HKX HBX HC
                  go_wp2_with fail
                  clear hb0 hb1
                  generalize wr = w5 at *
                  go_loopg [19, 20] (leaves t).length (fun f tv iv wz => ∃ i : Nat, i + f = (leaves t).length ∧ iv = .int .i64 (i : Int) ∧ Hid (OwI wz w5.heap.size tv (zs (toP t (bu sg k) C i))) ∧ Hid (Below w5.heap.size w5 wz))
                  case atStart => exact ⟨0, by omega, rfl, Lib.hid (World.ownsRow_nil _ _ _ _), Lib.hid (Below.refl _ _)⟩
                  case round =>
                    obtain ⟨i5, hif, rfl, HTO, HB6⟩ := hrel
                    have HX5 := Lib.hid (HX4.out.belowI HB6.out)
                    obtain ⟨d0, d1, d2, f0, f1, f2'⟩ := three_atL HX5.out.out.out
                    refine (Nat.lt_or_ge i5 (leaves t).length).elim (fun hi => ?_) (fun hi => ?_)
                    · obtain ⟨f3, rfl⟩ : ∃ f, gk = f + 1 := ⟨gk - 1, by omega⟩
                      have y1 : (i5 : Int) < ((leaves t).length : Int) := by omega
                      have y2 : IntKind.i64.wrap ((i5 : Int) + 1) = (i5 : Int) + 1 := i64_in _ (by have := HN12.out; omega)
                      have HTS := Lib.hid (toP_step t (bu sg k) C i5)
                      have HTL : Hid (((zs (toP t (bu sg k) C i5)).map (Value.int .i64)).length ≤ 1000000) := Lib.hid (by rw [List.length_map, List.length_map]; have := toP_len t (bu sg k) C i5; have := HN12.out; omega)
                      have heb := same_decL (bu (leaves t) i5) (bu sg k)
                      have hd : decide ((i5 : Int) ∈ zs C) = decide (i5 ∈ C) := by rw [Bool.eq_iff_iff, decide_eq_true_eq, decide_eq_true_eq, mem_zsP]
                      have HHA : Hid (∀ r, Calls Tryz.prog 24 #[.slice AC nC cC, .int .i64 (i5 : Int)] (wr.drewN r) fun e w' => e = .returned (.bool (decide (i5 ∈ C))) ∧ w' = wr.drewN r) := Lib.hid (fun r => (has3_any AC nC cC w5.heap.size (zs C) (i5 : Int) (wr.drewN r) ((HCI.out.below HB6.out).drewN r) (by rw [← HCI.out.1, List.length_map]; have := HCE.out.2; omega)).mono fun e w' h => ⟨by rw [h.1, hd], h.2.symm⟩)
                      clear hd
                      generalize decide (i5 ∈ C) = dd at *
                      generalize decide (bu (leaves t) i5 = bu sg k) = ee at *
                      obtain ⟨TI, hTI⟩ : ∃ TI, TI = toP t (bu sg k) C i5 := ⟨_, rfl⟩
                      rw [← hTI] at HTO HTS HTL
                      clear hTI
                      cases ee
                      · go_wp2_with fail
                        go_quiet (fail)
                        go_wp2_with fail
                        go_roundg f3
                        case measure => omega
                        case rel => exact ⟨i5 + 1, by omega, by simp, by rw [HTS.out, if_neg (by simp)]; exact HTO, Lib.hid (below_drewN HB6.out _)⟩
                      · cases dd
                        · go_wp2_with fail
                          go_quiet ((go_at_call 24; exact Calls.quiet_of_same (HHA.out _)))
                          go_wp2_with fail
                          go_roundg f3
                          case measure => omega
                          case rel => exact ⟨i5 + 1, by omega, by simp, by rw [HTS.out, if_neg (by simp)]; exact HTO, Lib.hid (below_drewN HB6.out _)⟩
                        · go_wp2_with fail
                          go_quiet ((go_at_call 24; exact Calls.quiet_of_same (HHA.out _)))
                          go_wp2_with (at_builtin; refine wpList_append1g rfl (.tmp 125) (.tmp 127) _ rfl 3 i0 _ Tryz.underlying44 hi0 hz0 hz1 (by omega) rfl w5.heap.size _ ((zs TI).map (Value.int .i64)) (.int .i64 (i5 : Int)) rfl rfl rfl HTO.out HTL.out HB6.out.size ?_; intro v9 w9 hown9 hgr9 hloc9; have HB9 := Lib.hid ((below_drewN HB6.out _).grown hgr9 HB6.out.size (fun k hk => own_lt HTO.out hk)); have HTO9 := Lib.hid hown9; clear hown9 hgr9 hloc9)
                          go_roundg f3
                          case measure => omega
                          case rel => exact ⟨i5 + 1, by omega, by simp, by rw [HTS.out, if_pos (by simp)]; exact Lib.hid (by have h := HTO9.out; simpa [OwI] using h), HB9⟩
                    have hie : i5 = (leaves t).length := by omega
                    have y1 : ¬ (i5 : Int) < ((leaves t).length : Int) := by omega
                    have HTG : Hid (zs (toP t (bu sg k) C i5) = stZ N (toM t m (bu sg k))) := Lib.hid (by
                      obtain ⟨⟨k', hk', hC⟩, _⟩ := HCE.out
                      rw [hie, hC, HN.out]; exact toP_endZ HN12.out _ hk')
                    have HTP : Hid (toM t m (bu sg k) < 2 ^ (leaves t).length) := Lib.hid toM_pow
                    rw [HTG.out] at HTO
                    have HRO6 := Lib.hid (own_belowI HRO4.out HB6.out)
                    have HKX6 : Hid (OwI wr D (.slice aK K.length cK) K ∧ ∀ k, (Value.slice aK K.length cK).ownBlock = some k → u15.ownBlock ≠ some k) := Lib.hid ⟨own_belowI HKX4.out.1 HB6.out, HKX4.out.2⟩
                    have HD5 : Hid (D ≤ w5.heap.size ∧ ∀ k, u15.ownBlock = some k → k < w5.heap.size) := Lib.hid ⟨by obtain ⟨g, e⟩ := HX4.out.set.at0 HMT.out.1.pos; have := HX4.out.set.lt (k := g) e; omega, fun k hk => (HRO4.out.lt k hk).2⟩
                    obtain ⟨AM, cM, hsv⟩ := HX5.out.set.shape
                    rw [List.length_map] at hsv
                    subst hsv
                    obtain ⟨TK, HTK⟩ : ∃ TK, Hid (TK = stZ N (toM t m (bu sg k))) := ⟨_, Lib.hid rfl⟩
                    rw [← HTK.out] at HTO
                    obtain ⟨A6, c6, hTv, _⟩ := own_shape HTO.out
                    rw [List.length_map] at hTv
                    subst hTv
                    generalize toM t m (bu sg k) = TG at *
                    clear d0 d1 d2 f0 f1 f2' HTG hi hie HCI HCE HX4 HRO4 HKX4
                    go_wp2_with fail
                    generalize wr = w6 at *
                    go_loopg [21] mt.length (fun f nv wz => ∃ q : Nat, q + f = mt.length ∧ nv = .int .i64 (q : Int) ∧ Hid (∀ j, j < q → mt.getD j 0 ≠ TG) ∧ Hid (Below w6.heap.size w6 wz))
                    case atStart => exact ⟨0, by omega, rfl, Lib.hid fun j hj => absurd hj (by omega), Lib.hid (Below.refl _ _)⟩
                    case round =>
                      obtain ⟨q, hqf, rfl, HQN, HB7⟩ := hrel
                      have HX7 := Lib.hid (HX5.out.belowI HB7.out)
                      have HTO7 := Lib.hid (own_belowI HTO.out HB7.out)
                      have HRO7 := Lib.hid (own_belowI HRO6.out HB7.out)
                      have HKX7 : Hid (OwI wr D (.slice aK K.length cK) K ∧ ∀ k, (Value.slice aK K.length cK).ownBlock = some k → u15.ownBlock ≠ some k) := Lib.hid ⟨own_belowI HKX6.out.1 HB7.out, HKX6.out.2⟩
                      by_cases hq : q < mt.length
                      · obtain ⟨f4, rfl⟩ : ∃ f, gk = f + 1 := ⟨gk - 1, by omega⟩
                        obtain ⟨bM, aQ, nQ, cQ, hAM, cq1, hQo, hnQ⟩ := HX7.out.set.at_ (k := q) hq
                        subst hAM
                        rw [ro_stZ hq] at hQo hnQ
                        have HSM := Lib.hid (smZ_any aQ A6 nQ TK.length cQ c6 wr.heap.size _ _ wr (ints_own2 hQo) (ints_own2 HTO7.out) (by have := stZ_len (n := N) (m := mt.getD q 0) (by have := HN.out; have := HN12.out; omega); omega))
                        have y3 : IntKind.i64.wrap ((q : Int) + 1) = (q : Int) + 1 := i64_in _ (by have := HMT.out.1.len HN12.out; omega)
                        have y4 : (q : Int) < (mt.length : Int) := by omega
                        have y5 : ((q : Int) == (mt.length : Int)) = false := by simp; omega
                        have HRWL : Hid ((row.map (Value.int .i64)).length ≤ 1000000) := Lib.hid (by rw [List.length_map]; have := HMT.out.2; have := HSGL.out; omega)
                        have HDS7 : Hid (D ≤ wr.heap.size) := Lib.hid (by have h1 := HD5.out.1; have h2 := HB6.out.size; have h3 := HB7.out.size; omega)
                        by_cases he : mt.getD q 0 = TG
                        · have hd : decide (stZ N (mt.getD q 0) = TK) = true := decide_eq_true (by rw [he, HTK.out])
                          rw [hd] at HSM
                          have hidx := idx_someS HQN.out hq he
                          rw [hidx, if_neg (by omega)] at HSTP
                          clear hd hidx he HQN hnQ hQo
                          go_wp2_with fail
                          refine HSM.out.mono ?_
                          rintro e w8 ⟨rfl, r, rfl⟩
                          go_wp2_with (at_builtin; refine wpList_append1g rfl (.tmp 152) (.tmp 154) _ rfl 3 i0 _ Tryz.underlying44 hi0 hz0 hz1 (by omega) rfl D _ (row.map (Value.int .i64)) (.int .i64 (q : Int)) rfl rfl rfl HRO7.out HRWL.out HDS7.out ?_; intro v9 w9 hown9 hgr9 hloc9)
                          have hxr := (HX7.out.belowI (below_drewN (Below.refl wr.heap.size wr) r)).addR (w' := w9) (x := (q : Int)) HRO7.out hgr9 hloc9 hown9
                          have HXR := Lib.hid hxr
                          have HKR := Lib.hid (own_addR (w := wr.drewN r) (w' := w9) HKX7.out hgr9 hloc9)
                          clear hown9 hgr9 hloc9 hxr HX7 HX5 HTO7 HTO HRO7 HKX7 HSM cq1
                          go_roundg f2
                          case measure => omega
                          case rel => exact ⟨k + 1, mt, row ++ [(q : Int)], by omega, by simp, Lib.hid HSTP.out.symm, Lib.hid HXR.out.1, Lib.hid HXR.out.2, HKR⟩
                        · have hd : decide (stZ N (mt.getD q 0) = TK) = false := decide_eq_false (fun e => he (stZ_inj (by rw [HN.out]; exact HMT.out.1.mem hq) (.inr (by rw [HN.out]; exact HTP.out)) (e.trans HTK.out)))
                          rw [hd] at HSM
                          have HQ2 : Hid (∀ j, j < q + 1 → mt.getD j 0 ≠ TG) := Lib.hid fun j hj => by
                            rcases Nat.lt_or_ge j q with hl | hl
                            · exact HQN.out j hl
                            · obtain rfl : j = q := by omega
                              exact he
                          clear hd he HQN hnQ hQo
                          go_wp2_with fail
                          refine HSM.out.mono ?_
                          rintro e w8 ⟨rfl, r, rfl⟩
                          go_wp2_with fail
                          go_roundg f4
                          case measure => omega
                          case rel => exact ⟨q + 1, by omega, by simp, HQ2, Lib.hid (below_drewN HB7.out _)⟩
                      · have hqe : q = mt.length := by omega
                        have hidx := idx_noneS (met := mt) (t := TG) (fun j hj => HQN.out j (by omega))
                        rw [hidx, if_pos rfl] at HSTP
                        have y4 : ¬ (mt.length : Int) < (mt.length : Int) := by omega
                        have y5 : ((mt.length : Int) == (mt.length : Int)) = true := by simp
                        have HRWL : Hid ((row.map (Value.int .i64)).length ≤ 1000000) := Lib.hid (by rw [List.length_map]; have := HMT.out.2; have := HSGL.out; omega)
                        have HDS7 : Hid (D ≤ wr.heap.size) := Lib.hid (by have h1 := HD5.out.1; have h2 := HB6.out.size; have h3 := HB7.out.size; omega)
                        obtain ⟨KC, hk1, hk2, hk3⟩ := HX7.out.set
                        have HK1 := Lib.hid hk1; have HK2 := Lib.hid hk2; have HK3 := Lib.hid hk3
                        have HKCL : Hid (KC.length ≤ 1000000) := Lib.hid (by rw [hk1, List.length_map]; have := HMT.out.1.len HN12.out; omega)
                        have HTO8 : Hid (OwI wr D (.slice A6 TK.length c6) TK) := Lib.hid (own_low HTO7.out HD5.out.1)
                        have HOKT : Hid (∀ k, (Value.slice A6 TK.length c6).ownBlock = some k → u15.ownBlock ≠ some k) := Lib.hid (fun k hk e => by have h1 := own_lt HTO7.out hk; have h2 := HD5.out.2 k e; omega)
                        clear hidx HQN hk1 hk2 hk3
                        subst hqe
                        go_wp2_with (first
                          | (at_builtin; refine wpList_append1g rfl (.tmp 148) (.tmp 150) _ rfl 44 i1 _ Tryz.underlying22 hi1 hy0 hy1 (by omega) rfl D _ KC (.slice A6 TK.length c6) rfl rfl rfl HK2.out HKCL.out HDS7.out ?_; intro v8 w8 hown8 hgr8 hloc8; have HX8 := Lib.hid (HX7.out.addS HK1.out HK2.out HK3.out HTO8.out HOKT.out hgr8 hloc8 hown8); have HRO8 := Lib.hid (own_int_rows HRO7.out (.inr fun k hk => HX7.out.set.type hk) hgr8); have HKX8 : Hid (OwI w8 D (.slice aK K.length cK) K ∧ ∀ k, (Value.slice aK K.length cK).ownBlock = some k → u15.ownBlock ≠ some k) := Lib.hid ⟨own_int_rows HKX7.out.1 (.inr fun k hk => HX7.out.set.type hk) hgr8, HKX7.out.2⟩; have HDS8 : Hid (D ≤ w8.heap.size) := Lib.hid (Nat.le_trans HDS7.out hgr8.size); clear hown8 hgr8 hloc8)
                          | (at_builtin; refine wpList_append1g rfl (.tmp 152) (.tmp 154) _ rfl 3 i0 _ Tryz.underlying44 hi0 hz0 hz1 (by omega) rfl D _ (row.map (Value.int .i64)) (.int .i64 (mt.length : Int)) rfl rfl rfl HRO8.out HRWL.out HDS8.out ?_; intro v9 w9 hown9 hgr9 hloc9))
                        have hxr := HX8.out.addR (w' := w9) (x := (mt.length : Int)) HRO8.out hgr9 hloc9 hown9
                        have HXR := Lib.hid hxr
                        have HKR := Lib.hid (own_addR (w := w8) (w' := w9) HKX8.out hgr9 hloc9)
                        clear hown9 hgr9 hloc9 hxr HX7 HX5 HTO7 HTO HRO7 HKX7 HX8 HRO8 HKX8 HDS8 HTO8 HOKT HK1 HK2 HK3
                        go_roundg f2
                        case measure => omega
                        case rel => exact ⟨k + 1, mt ++ [TG], row ++ [(mt.length : Int)], by omega, by simp, Lib.hid HSTP.out.symm, Lib.hid (by rw [List.map_append, List.map_singleton, ← HTK.out]; exact HXR.out.1), Lib.hid HXR.out.2, HKR⟩
              · have hke : k = sg.length := by omega
                have z1 : ¬ (k : Int) < (sg.length : Int) := by omega
                have HNXT : Hid (mt = (dfb t sg (a + 1)).met ∧ R ++ [row] = (dfb t sg (a + 1)).rows ∧ T ++ [tb] = (dfb t sg (a + 1)).tks) := Lib.hid (by
                  obtain ⟨e1, e2, e3⟩ := HPD.out
                  have h := dfb_succ t sg a
                  have hr := HRW.out
                  rw [hke] at hr
                  rw [← e1, ← e2, ← e3, if_pos HAL.out, ← HMM.out, ← hr, ← HTB.out] at h
                  rw [h]; exact ⟨rfl, rfl, rfl⟩)
                have HW := Lib.hid (HX.out.weak (ok' := fun _ => True) (fun b _ _ => trivial))
                obtain ⟨AN, cN, hvN⟩ := HW.out.out.rows.shape
                subst hvN
                obtain ⟨AR, cR, hvR, _⟩ := own_shape HRO.out
                rw [List.length_map] at hvR
                subst hvR
                obtain ⟨KC, hk1, hk2, hk3⟩ := HW.out.out.rows
                have HK1 := Lib.hid hk1; have HK2 := Lib.hid hk2; have HK3 := Lib.hid hk3
                have HKCL : Hid (KC.length ≤ 1000000) := Lib.hid (by rw [hk1]; have := HML.out; omega)
                have HDS7 : Hid (D ≤ wr.heap.size ∧ w4.heap.size < wr.heap.size) := Lib.hid ⟨by obtain ⟨g, e⟩ := HX.out.set.at0 HMT.out.1.pos; have := HX.out.set.lt (k := g) e; omega, HX.out.out.gt⟩
                clear hk1 hk2 hk3 HX HKX hke
                go_wp2_with (at_builtin; refine wpList_append1g rfl (.tmp 157) (.tmp 159) _ rfl 44 i1 _ Tryz.underlying22 hi1 hy0 hy1 (by omega) rfl D (.slice AN R.length cN) KC (.slice AR row.length cR) rfl rfl rfl HK2.out HKCL.out HDS7.out.1 ?_; intro v12 w12 hown12 hgr12 hloc12; obtain ⟨A12, n12, c12, e12⟩ : ∃ A n c, v12 = .slice A n c := (by obtain ⟨A', c', e, _⟩ := own_shape hown12; exact ⟨A', _, c', e⟩); subst e12; have hOb : w12.heap[w4.heap.size]? = wr.heap[w4.heap.size]? := hgr12.block _ HDS7.out.2 (fun e => by have h1 := HW.out.out.rows.lt e.symm; have := HW.out.out.lt; omega); have s5 : w12.cell? ⟨w4.heap.size, 1, none⟩ = some (.slice AN R.length cN) := (World.cell?_of_block (a := ⟨w4.heap.size, 1, none⟩) hOb).trans d1; have s6 : w12.frozen? ⟨w4.heap.size, 1, none⟩ = false := (World.frozen?_of_block (a := ⟨w4.heap.size, 1, none⟩) hOb).trans f1)
                have HNX := Lib.hid (HW.out.addN (K := row) HK1.out HK2.out HK3.out HRO.out (fun _ _ => trivial) hgr12 hloc12 hown12)
                clear hown12 hgr12 hloc12 hOb s5 s6 d0 d1 d2 f0 f1 f2' HW HDS7 HK1 HK2 HK3 HRO
                go_roundg f
                case measure => omega
                case rel => exact ⟨a + 1, _, _, mt, _, _, by omega, by simp, HNXT, HNX⟩
    · have hml : met.length ≤ a := Nat.le_of_not_lt ha
      have HEN : Hid (dfM t sg = ⟨sg, R, T⟩) := Lib.hid (by
        obtain ⟨e1, e2, e3⟩ := HPD.out
        have hend := dfb_end (t := t) (sg := sg) (a := a) HN12.out (by rw [← e1]; exact hml)
        unfold dfM
        exact (congrArg (fun b : Bf => (⟨sg, b.rows, b.tks⟩ : Mc)) hend.symm).trans (show (⟨sg, (dfb t sg a).rows, (dfb t sg a).tks⟩ : Mc) = ⟨sg, R, T⟩ from by rw [e2, e3]))
      have hx := HM.out.out
      obtain ⟨AN, cN, hvN⟩ := hx.rows.shape
      subst hvN
      obtain ⟨AT, cT, hvT, _⟩ := own_shape hx.tks
      rw [List.length_map] at hvT
      subst hvT
      have p1 : ¬ (a : Int) < (met.length : Int) := by omega
      obtain ⟨d0, d1, d2, _, _, _⟩ := three_atL hx.out
      have hres := (hx.low.block w.heap.size HX4.out.2.2.1).trans HX4.out.2.1
      have HRES := Lib.hid hres
      obtain ⟨r0, r1, r2, g0, g1, g2⟩ := three_atL hres
      have HX := Lib.hid hx
      have HLW : Hid (Below w.heap.size w wr) := Lib.hid (HX4.out.1.trans (hx.low.mono HX4.out.1.size))
      have HGW := Lib.hid HX4.out.2.2.1
      clear hml hx hres HM ha HML HMO HOK HPD
      go_wp2_with fail
      refine bodyPost_ret (res_cellU rfl _ _ w.heap.size 25 _ (0, 0) _ rfl (set3L HRES.out) Tryz.underlying25 rfl (by kernel_rfl)) rfl ?_
      have hgw := HGW.out
      have hd := HX.out.lt
      have HGR := ((grown_setJ wr w.heap.size 0 (S sg)).trans (grown_setJ (wr.setCell ⟨w.heap.size, 0, none⟩ (S sg)) w.heap.size 1 (.slice AN R.length cN))).trans (grown_setJ ((wr.setCell ⟨w.heap.size, 0, none⟩ (S sg)).setCell ⟨w.heap.size, 1, none⟩ (.slice AN R.length cN)) w.heap.size 2 (.slice AT T.length cT))
      have hKY := HX.out.rows.grown HGR (fun k hk hd => by injection hk with hk; omega) (fun k cur hk hd => by injection hk with hk; omega)
      have hTO := own_kept HX.out.tks HGR (fun k hk e => by injection e with e; have := own_lt HX.out.tks hk; omega)
      refine ⟨⟨AN, R.length, cN, AT, T.length, ⟨cT, rfl⟩, fun W hW => ?_⟩, ((HLW.out.setCell (p := ⟨w.heap.size, 0, none⟩) (Nat.le_refl _) _).setCell (p := ⟨w.heap.size, 1, none⟩) (Nat.le_refl _) _).setCell (p := ⟨w.heap.size, 2, none⟩) (Nat.le_refl _) _⟩
      have e1 : (dfM t sg).nx = R := by rw [HEN.out]
      have e2 : (dfM t sg).tk = T := by rw [HEN.out]
      exact ⟨by rw [e1]; exact (hKY.agree fun k hk hl => hW k (by omega) hl).rows, by rw [e2]; exact bls_of_own (T := T) (own_agree hTO fun k hk hl => hW k (by omega) hl) rfl⟩
end Go.Proofs.YtchhbnnpannnhaaGreatDoor
