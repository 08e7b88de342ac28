/- The law DfaSays: its walk. Condition: errors.errorType. -/
import Derived.Test.YtchhbnnpannnhaaGreatDoorDfX
import Derived.Test.YtchhbnnpannnhaaGreatDoorDfT
import Derived.Test.YtchhbnnpannnhaaGreatDoorMg16
import Derived.Test.YtchhbnnpannnhaaGreatDoorMg14
namespace Go.Proofs.YtchhbnnpannnhaaGreatDoor
open Go.RowKit Go.Lib IntWalk Go.Maps
set_option linter.unusedSimpArgs false
set_option linter.unusedVariables false
attribute [local go_sem] byte_at str_app

/-- A machine in a block of its own. -/
def At3 (w : World) (g : Nat) (sg : List UInt8) (A : Option Addr) (n c : Nat) (A2 : Option Addr) (m c2 : Nat) : Prop := w.heap[g]? = some (.cells #[S sg, .slice A n c, .slice A2 m c2] 25 (0, 0))
section
variable {w w' : World} {g n c m c2 B : Nat} {sg : List UInt8} {A A2 : Option Addr}
theorem At3.lt (h : At3 w g sg A n c A2 m c2) : g < w.heap.size := (Array.getElem?_eq_some_iff.1 h).1
theorem At3.below (h : At3 w g sg A n c A2 m c2) (hb : Below B w w') (hg : g < B) : At3 w' g sg A n c A2 m c2 := (hb.block g hg).trans h
theorem At3.cells (h : At3 w g sg A n c A2 m c2) : w.cell? ⟨g, 0, none⟩ = some (S sg) ∧ w.cell? ⟨g, 1, none⟩ = some (.slice A n c) ∧ w.cell? ⟨g, 2, none⟩ = some (.slice A2 m c2) := by
  obtain ⟨a, b, c, _⟩ := three_atL h
  exact ⟨a, b, c⟩
theorem At3.new (w : World) (sg : List UInt8) (A : Option Addr) (n c : Nat) (A2 : Option Addr) (m c2 : Nat) : At3 (w.alloc (.cells #[S sg, .slice A n c, .slice A2 m c2] 25)) w.heap.size sg A n c A2 m c2 := heap_alloc_new w _
end
def E0 : Mc := ⟨[], [], []⟩
theorem mac0 (w : World) (B : Nat) : MacW w B none 0 none 0 E0 := ⟨⟨rfl, fun h => absurd h (by omega)⟩, ⟨rfl, fun h => absurd h (by omega)⟩⟩
theorem dfM_small {t : Pt} {sg : List UInt8} (hn : (leaves t).length ≤ 12) (hs : sg.length ≤ 12) : (dfM t sg).sg = sg ∧ (dfM t sg).n ≤ 100000 ∧ (dfM t sg).tk.length = (dfM t sg).n ∧ ∀ i, i < (dfM t sg).n → (ro (dfM t sg).nx i).length ≤ 100000 := by
  obtain ⟨P, hP⟩ : ∃ P, P = dfb t sg 4097 := ⟨_, rfl⟩
  have h : DfOk t sg 4097 P := Eq.mpr (congrArg (DfOk t sg 4097) hP) (dfb_ok t sg 4097)
  have e : dfM t sg = ⟨sg, P.rows, P.tks⟩ := by unfold dfM; exact congrArg (fun b : Bf => (⟨sg, b.rows, b.tks⟩ : Mc)) hP.symm
  rw [e]
  clear e hP
  have hm := h.met.len hn
  have h1 := h.rl
  have h2 := h.tl
  refine ⟨rfl, ?_, ?_, fun i hi => ?_⟩
  · show P.rows.length ≤ 100000
    omega
  · show P.tks.length = P.rows.length
    omega
  · have h3 : (ro P.rows i).length = sg.length := h.row i hi
    show (ro P.rows i).length ≤ 100000
    omega

set_option maxRecDepth 100000 in
set_option maxHeartbeats 8000000 in
theorem dfaSays_walk (M : Mc) (A A2 : Option Addr) (n c m c2 : Nat) (s p : List UInt8) (w : World) (hM : MacW w w.heap.size A n A2 m M) (hs9 : s.length ≤ 9223372036854775807) (h9 : p.length ≤ 9223372036854775807) (hg : HG w) :
    Calls Tryz.prog 3 #[mcv M.sg A n c A2 m c2, S s, S p] w fun e w' => e = .returned (.bool true) ∧ Below w.heap.size w w' := by
  have h0 := At3.new w M.sg A n c A2 m c2
  have hb0 := (Below.refl w.heap.size w).alloc (Nat.le_refl _) (.cells #[S M.sg, .slice A n c, .slice A2 m c2] 25)
  generalize hw1 : w.alloc (.cells #[S M.sg, .slice A n c, .slice A2 m c2] 25) = w1 at *
  have hz1 : w.heap.size < w1.heap.size := h0.lt
  have HK : Hid (∀ W, Below w1.heap.size w1 W → At3 W w.heap.size M.sg A n c A2 m c2 ∧ Below w.heap.size w W ∧ MacW W w.heap.size A n A2 m M ∧ HG W ∧ w.heap.size ≤ W.heap.size) := Lib.hid fun W hb => by
    have hbb := hb0.trans (hb.mono hb0.size)
    exact ⟨h0.below hb hz1, hbb, hM.below hbb, hg.below hbb (Nat.le_refl _), hbb.size⟩
  have HB1 := Lib.hid (Below.refl w1.heap.size w1)
  obtain ⟨a0, a1, a2⟩ := h0.cells
  have hHE : ∀ k : Int, Hid (∀ W, Below w1.heap.size w1 W → Calls Tryz.prog 5 #[errV k, .int .i64 k] W fun e w' => e = .returned (.bool true) ∧ Below W.heap.size W w') := fun k => Lib.hid fun W hb => (error_any k k W (HK.out W hb).2.2.2.1).mono fun e w' h => ⟨by rw [h.1]; simp, h.2⟩
  have HWR : Hid (∀ W, Below w1.heap.size w1 W → Calls Tryz.prog 4 #[mcv M.sg A n c A2 m c2] W fun e w' => e = .returned (.int .i64 M.wrong) ∧ Below W.heap.size W w') := Lib.hid fun W hb => wrong_any M A A2 n c m c2 w.heap.size W (HK.out W hb).2.2.1 (HK.out W hb).2.2.2.2
  have HCK : Hid (∀ W, Below w1.heap.size w1 W → Calls Tryz.prog 6 #[mcv M.sg A n c A2 m c2] W fun e w' => e = .returned (errV M.wrong) ∧ Below W.heap.size W w') := Lib.hid fun W hb => mcheck_any M A A2 n c m c2 w.heap.size W (HK.out W hb).2.2.1 (HK.out W hb).2.2.2.2
  have HTA : Hid (∀ W, Below w1.heap.size w1 W → Calls Tryz.prog 7 #[mcv M.sg A n c A2 m c2, S s] W fun e w' => e = .returned (.tuple #[.bool (takesV M s), errV (takesE M s)]) ∧ Below W.heap.size W w') := Lib.hid fun W hb => takes_any M A A2 n c m c2 w.heap.size s W (HK.out W hb).2.2.1 (HK.out W hb).2.2.2.2
  have hHTR : M.wrong = 0 → s.length ≤ 24 → Hid (∀ W, Below w1.heap.size w1 W → Calls Tryz.prog 8 #[mcv M.sg A n c A2 m c2, S s] W fun e w' => e = .returned (.bool (M.takesB s)) ∧ Below W.heap.size W w') := fun hw hl => Lib.hid fun W hb => takesR_any M (Mc.wrong_zero.1 hw) A A2 n c m c2 w.heap.size s W (HK.out W hb).2.2.1 (HK.out W hb).2.2.2.2 (by omega)
  have HSZ : Hid (∀ W, Calls Tryz.prog 12 #[mcv [] none 0 0 none 0 0, mcv [] none 0 0 none 0 0] W fun e w' => e = .returned (.bool true) ∧ Below W.heap.size W w') := Lib.hid fun W => by
    have h := smM_any E0 E0 none none none none 0 0 0 0 0 0 0 0 W.heap.size W (mac0 _ _) (mac0 _ _) (Nat.le_refl _) (by omega) (by omega) (fun i h => absurd h (by omega))
    rw [show decide (E0 = E0) = true from decide_eq_true rfl] at h
    exact h
  have HE0 := hHE 0
  have HE4 := hHE 4
  rw [show errV 0 = .nilIface from rfl] at HE0
  rw [err_ne (by decide : (4 : Int) ≠ 0)] at HE4
  have HP : (parsE p ≠ 0) ∨ ∃ t, parsE p = 0 ∧ p.length ≤ 12 ∧ par p = some t := by
    by_cases he : parsE p = 0
    · obtain ⟨h12, t, ht⟩ := parsE_some he
      exact .inr ⟨t, he, h12, ht⟩
    · exact .inl he
  have HM3 : (M.wrong ≠ 0) ∨ (M.wrong = 0 ∧ 24 < s.length) ∨ (M.wrong = 0 ∧ s.length ≤ 24) := by
    by_cases hw : M.wrong = 0
    · rcases Nat.lt_or_ge 24 s.length with hl | hl
      · exact .inr (.inl ⟨hw, hl⟩)
      · exact .inr (.inr ⟨hw, hl⟩)
    · exact .inl hw
  clear h0 hb0 hM hg
  rcases HM3 with hw | ⟨hw, hl⟩ | ⟨hw, hl⟩
  · have HEK := hHE M.wrong
    rw [show takesV M s = false from by unfold takesV; rw [decide_eq_false hw]; rfl, show takesE M s = M.wrong from by unfold takesE; rw [if_pos hw]] at HTA
    have q1 : (M.wrong == 0) = false := by simpa using hw
    generalize errV M.wrong = ev1 at *
    generalize M.wrong = k1 at *
    clear hHTR hw HE4
    rcases HP with he | ⟨t, he, h12, ht⟩
    · have h3 := Lib.hid he
      have HRD : Hid (∀ W, Calls Tryz.prog 9 #[S p] W fun e w' => e = .returned (.tuple #[PV (.slice none 0 0) [] false 0, .int .i64 (parsE p)]) ∧ Below W.heap.size W w') := Lib.hid fun W => (readR_any p W h9).mono fun e w' h => by
        refine ⟨?_, h.2⟩
        rcases h.1 with ⟨k', _, h4, h2, e1⟩ | ⟨h12, rt, _, _, _, hrt, _⟩
        · rw [e1, ← bad_e h4 h2]
        · exact absurd (good_e h12 hrt).1 he
      have HOF : Hid (∀ W, Calls Tryz.prog 11 #[S p] W fun e w' => e = .returned (.tuple #[mcv [] none 0 0 none 0 0, errV (parsE p)]) ∧ Below W.heap.size W w') := Lib.hid fun W => dfaOf_err p W h9 he
      have HE3 := hHE (parsE p)
      have q3 : (parsE p == 0) = false := by simpa using he
      generalize errV (parsE p) = ev3 at *
      generalize parsE p = k3 at *
      clear hHE h3 he h9 hs9
      go_enter Tryz.func3, Tryz.ntmps3
      go_wp2_with fail
      clear hw1 a0 a1 a2
      refine (HWR.out _ HB1.out).mono ?_
      rintro e w2 ⟨rfl, hb2⟩
      have HB2 := Lib.hid (HB1.out.trans (hb2.mono HB1.out.size))
      obtain ⟨a0, a1, a2⟩ := (HK.out w2 HB2.out).1.cells
      clear hb2
      go_wp2_with fail
      clear a0 a1 a2
      refine (HCK.out _ HB2.out).mono ?_
      rintro e w3 ⟨rfl, hb3⟩
      have HB3 := Lib.hid (HB2.out.trans (hb3.mono HB2.out.size))
      obtain ⟨a0, a1, a2⟩ := (HK.out w3 HB3.out).1.cells
      clear hb3
      go_wp2_with fail
      clear a0 a1 a2
      refine (HEK.out _ HB3.out).mono ?_
      rintro e w4 ⟨rfl, hb4⟩
      have HB4 := Lib.hid (HB3.out.trans (hb4.mono HB3.out.size))
      obtain ⟨a0, a1, a2⟩ := (HK.out w4 HB4.out).1.cells
      clear hb4
      go_wp2_with fail
      clear a0 a1 a2
      refine (HTA.out _ HB4.out).mono ?_
      rintro e w5 ⟨rfl, hb5⟩
      have HB5 := Lib.hid (HB4.out.trans (hb5.mono HB4.out.size))
      obtain ⟨a0, a1, a2⟩ := (HK.out w5 HB5.out).1.cells
      clear hb5
      go_wp2_with fail
      clear a0 a1 a2
      refine (HEK.out _ HB5.out).mono ?_
      rintro e w6 ⟨rfl, hb6⟩
      have HB6 := Lib.hid (HB5.out.trans (hb6.mono HB5.out.size))
      obtain ⟨a0, a1, a2⟩ := (HK.out w6 HB6.out).1.cells
      clear hb6
      clear a0 a1 a2
      go_wp2_with fail
      refine (HRD.out _).mono ?_
      rintro e w8 ⟨rfl, hb8⟩
      have HB8 := Lib.hid (HB6.out.trans (hb8.mono HB6.out.size))
      have h9' := At3.new w8 [] none 0 0 none 0 0
      have HB9 := Lib.hid (HB8.out.alloc HB8.out.size (.cells #[S [], .slice none 0 0, .slice none 0 0] 25))
      have HX9 := Lib.hid (And.intro h9' h9'.lt)
      clear hb8 h9' HRD
      go_upto_region 11 with fail
      generalize w8.alloc (.cells #[S [], .slice none 0 0, .slice none 0 0] 25) = w9 at *
      go_wp2_with fail
      refine (HOF.out _).mono ?_
      rintro e w10 ⟨rfl, hb10⟩
      have hx10 := HX9.out.1.below hb10 HX9.out.2
      have HB10 := Lib.hid (HB9.out.trans (hb10.mono HB9.out.size))
      have HX10 := Lib.hid (And.intro hx10 hx10.lt)
      clear hb10 hx10 HX9 HOF
      go_upto_region 12 with fail
      have h11 := At3.new w10 [] none 0 0 none 0 0
      have hx11 := HX10.out.1.below ((Below.refl w10.heap.size w10).alloc (Nat.le_refl _) (.cells #[S [], .slice none 0 0, .slice none 0 0] 25)) HX10.out.2
      have HB11 := Lib.hid (HB10.out.alloc HB10.out.size (.cells #[S [], .slice none 0 0, .slice none 0 0] 25))
      have HX11 := Lib.hid (And.intro h11 (And.intro hx11 (And.intro h11.lt hx11.lt)))
      clear h11 hx11 HX10
      generalize w10.alloc (.cells #[S [], .slice none 0 0, .slice none 0 0] 25) = w11 at *
      go_wp2_with fail
      refine (HE3.out _ HB11.out).mono ?_
      rintro e w12 ⟨rfl, hb12⟩
      have HB12 := Lib.hid (HB11.out.trans (hb12.mono HB11.out.size))
      obtain ⟨a0, a1, a2⟩ := (HX11.out.1.below hb12 HX11.out.2.2.1).cells
      obtain ⟨b0, b1, b2⟩ := (HX11.out.2.1.below hb12 HX11.out.2.2.2).cells
      clear hb12 HX11
      go_wp2_with fail
      clear a0 a1 a2 b0 b1 b2
      refine (HSZ.out _).mono ?_
      rintro e w13 ⟨rfl, hb13⟩
      have HB13 := Lib.hid (HB12.out.trans (hb13.mono HB12.out.size))
      clear hb13
      go_wp2_with fail
      go_ret
      exact ⟨rfl, (HK.out w13 HB13.out).2.1⟩
    · have HRD : Hid (∀ W, Calls Tryz.prog 9 #[S p] W fun e w' => (∃ v kk, e = .returned (.tuple #[PV v [] false kk, .int .i64 0])) ∧ Below W.heap.size W w') := Lib.hid fun W => (readR_any p W h9).mono fun e w' h => by
        refine ⟨?_, h.2⟩
        obtain ⟨rt, hrt, hrel⟩ := rd_some ht
        rcases h.1 with ⟨k', hk', h4, h2, e1⟩ | ⟨_, rt', v, xs, kk, hrt', e1, hnv, hrp, _⟩
        · have := (h2 h12).2
          rw [hrt] at this; cases this
        · exact ⟨v, kk, e1⟩
      obtain ⟨D, hD⟩ : ∃ D, D = dfM t (sgs p) := ⟨_, rfl⟩
      have HDS : Hid (D.sg = sgs p ∧ D.n ≤ 100000 ∧ D.tk.length = D.n ∧ ∀ i, i < D.n → (ro D.nx i).length ≤ 100000) := Lib.hid (by
        obtain ⟨hlv, _⟩ := par_leaves ht
        have hl12 : (leaves t).length ≤ 12 := by
          rw [hlv]
          have : (lets p).length ≤ p.length := List.length_filter_le _ _
          omega
        have hs12 : (sgs p).length ≤ 12 := by have := sgs_lenD p; rw [← hlv] at this; omega
        rw [hD]; exact dfM_small hl12 hs12)
      have HMC : Hid (∀ W0 : World, Calls Tryz.prog 10 #[S p] W0 fun e w' => (∃ A' n' k' A2' n2' k2', e = .returned (mcv (sgs p) A' n' k' A2' n2' k2') ∧ ∀ W : World, (∀ k, W0.heap.size ≤ k → k < w'.heap.size → W.heap[k]? = w'.heap[k]?) → MacW W W.heap.size A' n' A2' n2' D) ∧ Below W0.heap.size W0 w') := Lib.hid fun W0 => by
        have h := machine_any p t he ht W0
        rwa [← hD] at h
      have HOF : Hid (∀ W, Calls Tryz.prog 11 #[S p] W fun e w' => (∃ A' k' A2' k2', e = .returned (.tuple #[mcv (sgs p) A' D.n k' A2' D.n k2', .nilIface]) ∧ MacW w' w'.heap.size A' D.n A2' D.n D) ∧ Below W.heap.size W w') := Lib.hid fun W => by
        have h := dfaOf_ok p t W h12 he ht
        rwa [← hD] at h
      have HSM : Hid (∀ W A1 A2 A1' A2' c1 c2 n' c1' m' c2', MacW W W.heap.size A1 D.n A2 D.n D → MacW W W.heap.size A1' n' A2' m' D → Calls Tryz.prog 12 #[mcv (sgs p) A1 D.n c1 A2 D.n c2, mcv (sgs p) A1' n' c1' A2' m' c2'] W fun e w' => e = .returned (.bool true) ∧ Below W.heap.size W w') := Lib.hid fun W A1 A2 A1' A2' c1 c2 n' c1' m' c2' h1 h2 => by
        obtain ⟨e1, e2, e3, e4⟩ := HDS.out
        have h := smM_any D D A1 A2 A1' A2' D.n c1 D.n c2 n' c1' m' c2' W.heap.size W h1 h2 (Nat.le_refl _) e2 e2 e4
        rw [e1, show decide (D = D) = true from decide_eq_true rfl] at h
        exact h
      clear hHE hD he ht h12 h9 hs9 HSZ HDS
      generalize sgs p = sg at *
      generalize D.n = dn at *
      go_enter Tryz.func3, Tryz.ntmps3
      go_wp2_with fail
      clear hw1 a0 a1 a2
      refine (HWR.out _ HB1.out).mono ?_
      rintro e w2 ⟨rfl, hb2⟩
      have HB2 := Lib.hid (HB1.out.trans (hb2.mono HB1.out.size))
      obtain ⟨a0, a1, a2⟩ := (HK.out w2 HB2.out).1.cells
      clear hb2
      go_wp2_with fail
      clear a0 a1 a2
      refine (HCK.out _ HB2.out).mono ?_
      rintro e w3 ⟨rfl, hb3⟩
      have HB3 := Lib.hid (HB2.out.trans (hb3.mono HB2.out.size))
      obtain ⟨a0, a1, a2⟩ := (HK.out w3 HB3.out).1.cells
      clear hb3
      go_wp2_with fail
      clear a0 a1 a2
      refine (HEK.out _ HB3.out).mono ?_
      rintro e w4 ⟨rfl, hb4⟩
      have HB4 := Lib.hid (HB3.out.trans (hb4.mono HB3.out.size))
      obtain ⟨a0, a1, a2⟩ := (HK.out w4 HB4.out).1.cells
      clear hb4
      go_wp2_with fail
      clear a0 a1 a2
      refine (HTA.out _ HB4.out).mono ?_
      rintro e w5 ⟨rfl, hb5⟩
      have HB5 := Lib.hid (HB4.out.trans (hb5.mono HB4.out.size))
      obtain ⟨a0, a1, a2⟩ := (HK.out w5 HB5.out).1.cells
      clear hb5
      go_wp2_with fail
      clear a0 a1 a2
      refine (HEK.out _ HB5.out).mono ?_
      rintro e w6 ⟨rfl, hb6⟩
      have HB6 := Lib.hid (HB5.out.trans (hb6.mono HB5.out.size))
      obtain ⟨a0, a1, a2⟩ := (HK.out w6 HB6.out).1.cells
      clear hb6
      clear a0 a1 a2
      go_wp2_with fail
      refine (HRD.out _).mono ?_
      rintro e w8 ⟨⟨v, kk, rfl⟩, hb8⟩
      have HB8 := Lib.hid (HB6.out.trans (hb8.mono HB6.out.size))
      have h9' := At3.new w8 [] none 0 0 none 0 0
      have HB9 := Lib.hid (HB8.out.alloc HB8.out.size (.cells #[S [], .slice none 0 0, .slice none 0 0] 25))
      have HX9 := Lib.hid (And.intro h9' h9'.lt)
      clear hb8 h9' HRD
      go_upto_region 10 with fail
      generalize w8.alloc (.cells #[S [], .slice none 0 0, .slice none 0 0] 25) = w9 at *
      go_wp2_with fail
      refine (HMC.out _).mono ?_
      rintro e w10 ⟨⟨P1, n1, k1', P2, n2, k2', rfl, hm10⟩, hb10⟩
      have hx10 := HX9.out.1.below hb10 HX9.out.2
      have HB10 := Lib.hid (HB9.out.trans (hb10.mono HB9.out.size))
      have HM11 : Hid (MacW (((w10.setCell ⟨w8.heap.size, 0, none⟩ (S sg)).setCell ⟨w8.heap.size, 1, none⟩ (.slice P1 n1 k1')).setCell ⟨w8.heap.size, 2, none⟩ (.slice P2 n2 k2')) (((w10.setCell ⟨w8.heap.size, 0, none⟩ (S sg)).setCell ⟨w8.heap.size, 1, none⟩ (.slice P1 n1 k1')).setCell ⟨w8.heap.size, 2, none⟩ (.slice P2 n2 k2')).heap.size P1 n1 P2 n2 D) := Lib.hid (hm10 _ (fun k hk _ => by
        have := HX9.out.2
        simp only [World.setCell, Array.getElem?_modify]
        rw [if_neg (by omega), if_neg (by omega), if_neg (by omega)]))
      have h11 : At3 (((w10.setCell ⟨w8.heap.size, 0, none⟩ (S sg)).setCell ⟨w8.heap.size, 1, none⟩ (.slice P1 n1 k1')).setCell ⟨w8.heap.size, 2, none⟩ (.slice P2 n2 k2')) w8.heap.size sg P1 n1 k1' P2 n2 k2' := set3L hx10
      have HX11 := Lib.hid (And.intro h11 h11.lt)
      have HB11 : Hid (Below w1.heap.size w1 (((w10.setCell ⟨w8.heap.size, 0, none⟩ (S sg)).setCell ⟨w8.heap.size, 1, none⟩ (.slice P1 n1 k1')).setCell ⟨w8.heap.size, 2, none⟩ (.slice P2 n2 k2'))) := Lib.hid (by
        have := HB8.out.size
        exact ((HB10.out.setCell (p := ⟨w8.heap.size, 0, none⟩) this _).setCell (p := ⟨w8.heap.size, 1, none⟩) this _).setCell (p := ⟨w8.heap.size, 2, none⟩) this _)
      obtain ⟨b0, b1, b2, f0, f1, f2⟩ := three_atL hx10
      clear hb10 hx10 HX9 hm10 h11 HMC
      go_upto_region 11 with fail
      generalize ((w10.setCell ⟨w8.heap.size, 0, none⟩ (S sg)).setCell ⟨w8.heap.size, 1, none⟩ (.slice P1 n1 k1')).setCell ⟨w8.heap.size, 2, none⟩ (.slice P2 n2 k2') = w11 at *
      clear b0 b1 b2 f0 f1 f2
      go_wp2_with fail
      refine (HOF.out _).mono ?_
      rintro e w12 ⟨⟨A', k', A2', k2'', rfl, hm12⟩, hb12⟩
      have hx12 := HX11.out.1.below hb12 HX11.out.2
      have hm11 := (HM11.out.below hb12).more hb12.size
      have HB12 := Lib.hid (HB11.out.trans (hb12.mono HB11.out.size))
      go_upto_region 12 with fail
      have hba := (Below.refl w12.heap.size w12).alloc (Nat.le_refl _) (.cells #[S sg, .slice A' dn k', .slice A2' dn k2''] 25)
      have hx13 := At3.new w12 sg A' dn k' A2' dn k2''
      have hy13 := hx12.below hba hx12.lt
      have HB13 := Lib.hid (HB12.out.alloc HB12.out.size (.cells #[S sg, .slice A' dn k', .slice A2' dn k2''] 25))
      have HX13 := Lib.hid (And.intro hx13 (And.intro hy13 (And.intro hx13.lt (And.intro hy13.lt (And.intro ((hm12.below hba).more hba.size) ((hm11.below hba).more hba.size))))))
      clear hb12 hx12 hm12 hm11 hba hx13 hy13 HX11 HM11 HOF
      generalize w12.alloc (.cells #[S sg, .slice A' dn k', .slice A2' dn k2''] 25) = w13 at *
      go_wp2_with fail
      refine (HE0.out _ HB13.out).mono ?_
      rintro e w14 ⟨rfl, hb14⟩
      have HB14 := Lib.hid (HB13.out.trans (hb14.mono HB13.out.size))
      obtain ⟨c1, c2', c3, c4, c5, c6⟩ := HX13.out
      have HSS := Lib.hid (HSM.out w14 A' A2' P1 P2 k' k2'' n1 k1' n2 k2' ((c5.below hb14).more hb14.size) ((c6.below hb14).more hb14.size))
      obtain ⟨a0, a1, a2⟩ := (c1.below hb14 c3).cells
      obtain ⟨b0, b1, b2⟩ := (c2'.below hb14 c4).cells
      clear hb14 HX13 c1 c2' c3 c4 c5 c6 HSM
      go_wp2_with fail
      clear a0 a1 a2 b0 b1 b2
      refine HSS.out.mono ?_
      rintro e w15 ⟨rfl, hb15⟩
      have HB15 := Lib.hid (HB14.out.trans (hb15.mono HB14.out.size))
      clear hb15
      go_wp2_with fail
      go_ret
      exact ⟨rfl, (HK.out w15 HB15.out).2.1⟩
  · rw [show takesV M s = false from by unfold takesV; rw [decide_eq_false (by omega : ¬ s.length ≤ 24)]; simp, show takesE M s = 4 from by unfold takesE; rw [if_neg (fun h => h hw), if_pos hl], err_ne (by decide : (4 : Int) ≠ 0)] at HTA
    rw [hw] at HWR HCK
    rw [show errV 0 = .nilIface from rfl] at HCK
    have HEK := HE0
    have q1 : (24 : Int) < (s.length : Int) := by omega
    clear hHTR hw
    rcases HP with he | ⟨t, he, h12, ht⟩
    · have h3 := Lib.hid he
      have HRD : Hid (∀ W, Calls Tryz.prog 9 #[S p] W fun e w' => e = .returned (.tuple #[PV (.slice none 0 0) [] false 0, .int .i64 (parsE p)]) ∧ Below W.heap.size W w') := Lib.hid fun W => (readR_any p W h9).mono fun e w' h => by
        refine ⟨?_, h.2⟩
        rcases h.1 with ⟨k', _, h4, h2, e1⟩ | ⟨h12, rt, _, _, _, hrt, _⟩
        · rw [e1, ← bad_e h4 h2]
        · exact absurd (good_e h12 hrt).1 he
      have HOF : Hid (∀ W, Calls Tryz.prog 11 #[S p] W fun e w' => e = .returned (.tuple #[mcv [] none 0 0 none 0 0, errV (parsE p)]) ∧ Below W.heap.size W w') := Lib.hid fun W => dfaOf_err p W h9 he
      have HE3 := hHE (parsE p)
      have q3 : (parsE p == 0) = false := by simpa using he
      generalize errV (parsE p) = ev3 at *
      generalize parsE p = k3 at *
      clear hHE h3 he h9 hs9
      go_enter Tryz.func3, Tryz.ntmps3
      go_wp2_with fail
      clear hw1 a0 a1 a2
      refine (HWR.out _ HB1.out).mono ?_
      rintro e w2 ⟨rfl, hb2⟩
      have HB2 := Lib.hid (HB1.out.trans (hb2.mono HB1.out.size))
      obtain ⟨a0, a1, a2⟩ := (HK.out w2 HB2.out).1.cells
      clear hb2
      go_wp2_with fail
      clear a0 a1 a2
      refine (HCK.out _ HB2.out).mono ?_
      rintro e w3 ⟨rfl, hb3⟩
      have HB3 := Lib.hid (HB2.out.trans (hb3.mono HB2.out.size))
      obtain ⟨a0, a1, a2⟩ := (HK.out w3 HB3.out).1.cells
      clear hb3
      go_wp2_with fail
      clear a0 a1 a2
      refine (HEK.out _ HB3.out).mono ?_
      rintro e w4 ⟨rfl, hb4⟩
      have HB4 := Lib.hid (HB3.out.trans (hb4.mono HB3.out.size))
      obtain ⟨a0, a1, a2⟩ := (HK.out w4 HB4.out).1.cells
      clear hb4
      go_wp2_with fail
      clear a0 a1 a2
      refine (HTA.out _ HB4.out).mono ?_
      rintro e w5 ⟨rfl, hb5⟩
      have HB5 := Lib.hid (HB4.out.trans (hb5.mono HB4.out.size))
      obtain ⟨a0, a1, a2⟩ := (HK.out w5 HB5.out).1.cells
      clear hb5
      go_wp2_with fail
      clear a0 a1 a2
      refine (HE4.out _ HB5.out).mono ?_
      rintro e w6 ⟨rfl, hb6⟩
      have HB6 := Lib.hid (HB5.out.trans (hb6.mono HB5.out.size))
      obtain ⟨a0, a1, a2⟩ := (HK.out w6 HB6.out).1.cells
      clear hb6
      clear a0 a1 a2
      go_wp2_with fail
      refine (HRD.out _).mono ?_
      rintro e w8 ⟨rfl, hb8⟩
      have HB8 := Lib.hid (HB6.out.trans (hb8.mono HB6.out.size))
      have h9' := At3.new w8 [] none 0 0 none 0 0
      have HB9 := Lib.hid (HB8.out.alloc HB8.out.size (.cells #[S [], .slice none 0 0, .slice none 0 0] 25))
      have HX9 := Lib.hid (And.intro h9' h9'.lt)
      clear hb8 h9' HRD
      go_upto_region 11 with fail
      generalize w8.alloc (.cells #[S [], .slice none 0 0, .slice none 0 0] 25) = w9 at *
      go_wp2_with fail
      refine (HOF.out _).mono ?_
      rintro e w10 ⟨rfl, hb10⟩
      have hx10 := HX9.out.1.below hb10 HX9.out.2
      have HB10 := Lib.hid (HB9.out.trans (hb10.mono HB9.out.size))
      have HX10 := Lib.hid (And.intro hx10 hx10.lt)
      clear hb10 hx10 HX9 HOF
      go_upto_region 12 with fail
      have h11 := At3.new w10 [] none 0 0 none 0 0
      have hx11 := HX10.out.1.below ((Below.refl w10.heap.size w10).alloc (Nat.le_refl _) (.cells #[S [], .slice none 0 0, .slice none 0 0] 25)) HX10.out.2
      have HB11 := Lib.hid (HB10.out.alloc HB10.out.size (.cells #[S [], .slice none 0 0, .slice none 0 0] 25))
      have HX11 := Lib.hid (And.intro h11 (And.intro hx11 (And.intro h11.lt hx11.lt)))
      clear h11 hx11 HX10
      generalize w10.alloc (.cells #[S [], .slice none 0 0, .slice none 0 0] 25) = w11 at *
      go_wp2_with fail
      refine (HE3.out _ HB11.out).mono ?_
      rintro e w12 ⟨rfl, hb12⟩
      have HB12 := Lib.hid (HB11.out.trans (hb12.mono HB11.out.size))
      obtain ⟨a0, a1, a2⟩ := (HX11.out.1.below hb12 HX11.out.2.2.1).cells
      obtain ⟨b0, b1, b2⟩ := (HX11.out.2.1.below hb12 HX11.out.2.2.2).cells
      clear hb12 HX11
      go_wp2_with fail
      clear a0 a1 a2 b0 b1 b2
      refine (HSZ.out _).mono ?_
      rintro e w13 ⟨rfl, hb13⟩
      have HB13 := Lib.hid (HB12.out.trans (hb13.mono HB12.out.size))
      clear hb13
      go_wp2_with fail
      go_ret
      exact ⟨rfl, (HK.out w13 HB13.out).2.1⟩
    · have HRD : Hid (∀ W, Calls Tryz.prog 9 #[S p] W fun e w' => (∃ v kk, e = .returned (.tuple #[PV v [] false kk, .int .i64 0])) ∧ Below W.heap.size W w') := Lib.hid fun W => (readR_any p W h9).mono fun e w' h => by
        refine ⟨?_, h.2⟩
        obtain ⟨rt, hrt, hrel⟩ := rd_some ht
        rcases h.1 with ⟨k', hk', h4, h2, e1⟩ | ⟨_, rt', v, xs, kk, hrt', e1, hnv, hrp, _⟩
        · have := (h2 h12).2
          rw [hrt] at this; cases this
        · exact ⟨v, kk, e1⟩
      obtain ⟨D, hD⟩ : ∃ D, D = dfM t (sgs p) := ⟨_, rfl⟩
      have HDS : Hid (D.sg = sgs p ∧ D.n ≤ 100000 ∧ D.tk.length = D.n ∧ ∀ i, i < D.n → (ro D.nx i).length ≤ 100000) := Lib.hid (by
        obtain ⟨hlv, _⟩ := par_leaves ht
        have hl12 : (leaves t).length ≤ 12 := by
          rw [hlv]
          have : (lets p).length ≤ p.length := List.length_filter_le _ _
          omega
        have hs12 : (sgs p).length ≤ 12 := by have := sgs_lenD p; rw [← hlv] at this; omega
        rw [hD]; exact dfM_small hl12 hs12)
      have HMC : Hid (∀ W0 : World, Calls Tryz.prog 10 #[S p] W0 fun e w' => (∃ A' n' k' A2' n2' k2', e = .returned (mcv (sgs p) A' n' k' A2' n2' k2') ∧ ∀ W : World, (∀ k, W0.heap.size ≤ k → k < w'.heap.size → W.heap[k]? = w'.heap[k]?) → MacW W W.heap.size A' n' A2' n2' D) ∧ Below W0.heap.size W0 w') := Lib.hid fun W0 => by
        have h := machine_any p t he ht W0
        rwa [← hD] at h
      have HOF : Hid (∀ W, Calls Tryz.prog 11 #[S p] W fun e w' => (∃ A' k' A2' k2', e = .returned (.tuple #[mcv (sgs p) A' D.n k' A2' D.n k2', .nilIface]) ∧ MacW w' w'.heap.size A' D.n A2' D.n D) ∧ Below W.heap.size W w') := Lib.hid fun W => by
        have h := dfaOf_ok p t W h12 he ht
        rwa [← hD] at h
      have HSM : Hid (∀ W A1 A2 A1' A2' c1 c2 n' c1' m' c2', MacW W W.heap.size A1 D.n A2 D.n D → MacW W W.heap.size A1' n' A2' m' D → Calls Tryz.prog 12 #[mcv (sgs p) A1 D.n c1 A2 D.n c2, mcv (sgs p) A1' n' c1' A2' m' c2'] W fun e w' => e = .returned (.bool true) ∧ Below W.heap.size W w') := Lib.hid fun W A1 A2 A1' A2' c1 c2 n' c1' m' c2' h1 h2 => by
        obtain ⟨e1, e2, e3, e4⟩ := HDS.out
        have h := smM_any D D A1 A2 A1' A2' D.n c1 D.n c2 n' c1' m' c2' W.heap.size W h1 h2 (Nat.le_refl _) e2 e2 e4
        rw [e1, show decide (D = D) = true from decide_eq_true rfl] at h
        exact h
      clear hHE hD he ht h12 h9 hs9 HSZ HDS
      generalize sgs p = sg at *
      generalize D.n = dn at *
      go_enter Tryz.func3, Tryz.ntmps3
      go_wp2_with fail
      clear hw1 a0 a1 a2
      refine (HWR.out _ HB1.out).mono ?_
      rintro e w2 ⟨rfl, hb2⟩
      have HB2 := Lib.hid (HB1.out.trans (hb2.mono HB1.out.size))
      obtain ⟨a0, a1, a2⟩ := (HK.out w2 HB2.out).1.cells
      clear hb2
      go_wp2_with fail
      clear a0 a1 a2
      refine (HCK.out _ HB2.out).mono ?_
      rintro e w3 ⟨rfl, hb3⟩
      have HB3 := Lib.hid (HB2.out.trans (hb3.mono HB2.out.size))
      obtain ⟨a0, a1, a2⟩ := (HK.out w3 HB3.out).1.cells
      clear hb3
      go_wp2_with fail
      clear a0 a1 a2
      refine (HEK.out _ HB3.out).mono ?_
      rintro e w4 ⟨rfl, hb4⟩
      have HB4 := Lib.hid (HB3.out.trans (hb4.mono HB3.out.size))
      obtain ⟨a0, a1, a2⟩ := (HK.out w4 HB4.out).1.cells
      clear hb4
      go_wp2_with fail
      clear a0 a1 a2
      refine (HTA.out _ HB4.out).mono ?_
      rintro e w5 ⟨rfl, hb5⟩
      have HB5 := Lib.hid (HB4.out.trans (hb5.mono HB4.out.size))
      obtain ⟨a0, a1, a2⟩ := (HK.out w5 HB5.out).1.cells
      clear hb5
      go_wp2_with fail
      clear a0 a1 a2
      refine (HE4.out _ HB5.out).mono ?_
      rintro e w6 ⟨rfl, hb6⟩
      have HB6 := Lib.hid (HB5.out.trans (hb6.mono HB5.out.size))
      obtain ⟨a0, a1, a2⟩ := (HK.out w6 HB6.out).1.cells
      clear hb6
      clear a0 a1 a2
      go_wp2_with fail
      refine (HRD.out _).mono ?_
      rintro e w8 ⟨⟨v, kk, rfl⟩, hb8⟩
      have HB8 := Lib.hid (HB6.out.trans (hb8.mono HB6.out.size))
      have h9' := At3.new w8 [] none 0 0 none 0 0
      have HB9 := Lib.hid (HB8.out.alloc HB8.out.size (.cells #[S [], .slice none 0 0, .slice none 0 0] 25))
      have HX9 := Lib.hid (And.intro h9' h9'.lt)
      clear hb8 h9' HRD
      go_upto_region 10 with fail
      generalize w8.alloc (.cells #[S [], .slice none 0 0, .slice none 0 0] 25) = w9 at *
      go_wp2_with fail
      refine (HMC.out _).mono ?_
      rintro e w10 ⟨⟨P1, n1, k1', P2, n2, k2', rfl, hm10⟩, hb10⟩
      have hx10 := HX9.out.1.below hb10 HX9.out.2
      have HB10 := Lib.hid (HB9.out.trans (hb10.mono HB9.out.size))
      have HM11 : Hid (MacW (((w10.setCell ⟨w8.heap.size, 0, none⟩ (S sg)).setCell ⟨w8.heap.size, 1, none⟩ (.slice P1 n1 k1')).setCell ⟨w8.heap.size, 2, none⟩ (.slice P2 n2 k2')) (((w10.setCell ⟨w8.heap.size, 0, none⟩ (S sg)).setCell ⟨w8.heap.size, 1, none⟩ (.slice P1 n1 k1')).setCell ⟨w8.heap.size, 2, none⟩ (.slice P2 n2 k2')).heap.size P1 n1 P2 n2 D) := Lib.hid (hm10 _ (fun k hk _ => by
        have := HX9.out.2
        simp only [World.setCell, Array.getElem?_modify]
        rw [if_neg (by omega), if_neg (by omega), if_neg (by omega)]))
      have h11 : At3 (((w10.setCell ⟨w8.heap.size, 0, none⟩ (S sg)).setCell ⟨w8.heap.size, 1, none⟩ (.slice P1 n1 k1')).setCell ⟨w8.heap.size, 2, none⟩ (.slice P2 n2 k2')) w8.heap.size sg P1 n1 k1' P2 n2 k2' := set3L hx10
      have HX11 := Lib.hid (And.intro h11 h11.lt)
      have HB11 : Hid (Below w1.heap.size w1 (((w10.setCell ⟨w8.heap.size, 0, none⟩ (S sg)).setCell ⟨w8.heap.size, 1, none⟩ (.slice P1 n1 k1')).setCell ⟨w8.heap.size, 2, none⟩ (.slice P2 n2 k2'))) := Lib.hid (by
        have := HB8.out.size
        exact ((HB10.out.setCell (p := ⟨w8.heap.size, 0, none⟩) this _).setCell (p := ⟨w8.heap.size, 1, none⟩) this _).setCell (p := ⟨w8.heap.size, 2, none⟩) this _)
      obtain ⟨b0, b1, b2, f0, f1, f2⟩ := three_atL hx10
      clear hb10 hx10 HX9 hm10 h11 HMC
      go_upto_region 11 with fail
      generalize ((w10.setCell ⟨w8.heap.size, 0, none⟩ (S sg)).setCell ⟨w8.heap.size, 1, none⟩ (.slice P1 n1 k1')).setCell ⟨w8.heap.size, 2, none⟩ (.slice P2 n2 k2') = w11 at *
      clear b0 b1 b2 f0 f1 f2
      go_wp2_with fail
      refine (HOF.out _).mono ?_
      rintro e w12 ⟨⟨A', k', A2', k2'', rfl, hm12⟩, hb12⟩
      have hx12 := HX11.out.1.below hb12 HX11.out.2
      have hm11 := (HM11.out.below hb12).more hb12.size
      have HB12 := Lib.hid (HB11.out.trans (hb12.mono HB11.out.size))
      go_upto_region 12 with fail
      have hba := (Below.refl w12.heap.size w12).alloc (Nat.le_refl _) (.cells #[S sg, .slice A' dn k', .slice A2' dn k2''] 25)
      have hx13 := At3.new w12 sg A' dn k' A2' dn k2''
      have hy13 := hx12.below hba hx12.lt
      have HB13 := Lib.hid (HB12.out.alloc HB12.out.size (.cells #[S sg, .slice A' dn k', .slice A2' dn k2''] 25))
      have HX13 := Lib.hid (And.intro hx13 (And.intro hy13 (And.intro hx13.lt (And.intro hy13.lt (And.intro ((hm12.below hba).more hba.size) ((hm11.below hba).more hba.size))))))
      clear hb12 hx12 hm12 hm11 hba hx13 hy13 HX11 HM11 HOF
      generalize w12.alloc (.cells #[S sg, .slice A' dn k', .slice A2' dn k2''] 25) = w13 at *
      go_wp2_with fail
      refine (HE0.out _ HB13.out).mono ?_
      rintro e w14 ⟨rfl, hb14⟩
      have HB14 := Lib.hid (HB13.out.trans (hb14.mono HB13.out.size))
      obtain ⟨c1, c2', c3, c4, c5, c6⟩ := HX13.out
      have HSS := Lib.hid (HSM.out w14 A' A2' P1 P2 k' k2'' n1 k1' n2 k2' ((c5.below hb14).more hb14.size) ((c6.below hb14).more hb14.size))
      obtain ⟨a0, a1, a2⟩ := (c1.below hb14 c3).cells
      obtain ⟨b0, b1, b2⟩ := (c2'.below hb14 c4).cells
      clear hb14 HX13 c1 c2' c3 c4 c5 c6 HSM
      go_wp2_with fail
      clear a0 a1 a2 b0 b1 b2
      refine HSS.out.mono ?_
      rintro e w15 ⟨rfl, hb15⟩
      have HB15 := Lib.hid (HB14.out.trans (hb15.mono HB14.out.size))
      clear hb15
      go_wp2_with fail
      go_ret
      exact ⟨rfl, (HK.out w15 HB15.out).2.1⟩
  · have HTR := hHTR hw hl
    rw [show takesV M s = M.takesB s from by unfold takesV; rw [decide_eq_true hw, decide_eq_true hl]; simp, show takesE M s = 0 from by unfold takesE; rw [if_neg (fun h => h hw), if_neg (by omega)], show errV 0 = .nilIface from rfl] at HTA
    rw [hw] at HWR HCK
    rw [show errV 0 = .nilIface from rfl] at HCK
    have HEK := HE0
    have q1 : ¬ (24 : Int) < (s.length : Int) := by omega
    generalize M.takesB s = tb at *
    clear hHTR hw HE4
    rcases HP with he | ⟨t, he, h12, ht⟩
    · have h3 := Lib.hid he
      have HRD : Hid (∀ W, Calls Tryz.prog 9 #[S p] W fun e w' => e = .returned (.tuple #[PV (.slice none 0 0) [] false 0, .int .i64 (parsE p)]) ∧ Below W.heap.size W w') := Lib.hid fun W => (readR_any p W h9).mono fun e w' h => by
        refine ⟨?_, h.2⟩
        rcases h.1 with ⟨k', _, h4, h2, e1⟩ | ⟨h12, rt, _, _, _, hrt, _⟩
        · rw [e1, ← bad_e h4 h2]
        · exact absurd (good_e h12 hrt).1 he
      have HOF : Hid (∀ W, Calls Tryz.prog 11 #[S p] W fun e w' => e = .returned (.tuple #[mcv [] none 0 0 none 0 0, errV (parsE p)]) ∧ Below W.heap.size W w') := Lib.hid fun W => dfaOf_err p W h9 he
      have HE3 := hHE (parsE p)
      have q3 : (parsE p == 0) = false := by simpa using he
      generalize errV (parsE p) = ev3 at *
      generalize parsE p = k3 at *
      clear hHE h3 he h9 hs9
      go_enter Tryz.func3, Tryz.ntmps3
      go_wp2_with fail
      clear hw1 a0 a1 a2
      refine (HWR.out _ HB1.out).mono ?_
      rintro e w2 ⟨rfl, hb2⟩
      have HB2 := Lib.hid (HB1.out.trans (hb2.mono HB1.out.size))
      obtain ⟨a0, a1, a2⟩ := (HK.out w2 HB2.out).1.cells
      clear hb2
      go_wp2_with fail
      clear a0 a1 a2
      refine (HCK.out _ HB2.out).mono ?_
      rintro e w3 ⟨rfl, hb3⟩
      have HB3 := Lib.hid (HB2.out.trans (hb3.mono HB2.out.size))
      obtain ⟨a0, a1, a2⟩ := (HK.out w3 HB3.out).1.cells
      clear hb3
      go_wp2_with fail
      clear a0 a1 a2
      refine (HEK.out _ HB3.out).mono ?_
      rintro e w4 ⟨rfl, hb4⟩
      have HB4 := Lib.hid (HB3.out.trans (hb4.mono HB3.out.size))
      obtain ⟨a0, a1, a2⟩ := (HK.out w4 HB4.out).1.cells
      clear hb4
      go_wp2_with fail
      clear a0 a1 a2
      refine (HTA.out _ HB4.out).mono ?_
      rintro e w5 ⟨rfl, hb5⟩
      have HB5 := Lib.hid (HB4.out.trans (hb5.mono HB4.out.size))
      obtain ⟨a0, a1, a2⟩ := (HK.out w5 HB5.out).1.cells
      clear hb5
      go_wp2_with fail
      clear a0 a1 a2
      refine (HE0.out _ HB5.out).mono ?_
      rintro e w6 ⟨rfl, hb6⟩
      have HB6 := Lib.hid (HB5.out.trans (hb6.mono HB5.out.size))
      obtain ⟨a0, a1, a2⟩ := (HK.out w6 HB6.out).1.cells
      clear hb6
      go_wp2_with fail
      clear a0 a1 a2
      refine (HTR.out _ HB6.out).mono ?_
      rintro e w7 ⟨rfl, hb7⟩
      have HB7 := Lib.hid (HB6.out.trans (hb7.mono HB6.out.size))
      obtain ⟨a0, a1, a2⟩ := (HK.out w7 HB7.out).1.cells
      clear hb7
      clear a0 a1 a2
      go_wp2_with fail
      refine (HRD.out _).mono ?_
      rintro e w8 ⟨rfl, hb8⟩
      have HB8 := Lib.hid (HB7.out.trans (hb8.mono HB7.out.size))
      have h9' := At3.new w8 [] none 0 0 none 0 0
      have HB9 := Lib.hid (HB8.out.alloc HB8.out.size (.cells #[S [], .slice none 0 0, .slice none 0 0] 25))
      have HX9 := Lib.hid (And.intro h9' h9'.lt)
      clear hb8 h9' HRD
      go_upto_region 11 with fail
      generalize w8.alloc (.cells #[S [], .slice none 0 0, .slice none 0 0] 25) = w9 at *
      go_wp2_with fail
      refine (HOF.out _).mono ?_
      rintro e w10 ⟨rfl, hb10⟩
      have hx10 := HX9.out.1.below hb10 HX9.out.2
      have HB10 := Lib.hid (HB9.out.trans (hb10.mono HB9.out.size))
      have HX10 := Lib.hid (And.intro hx10 hx10.lt)
      clear hb10 hx10 HX9 HOF
      go_upto_region 12 with fail
      have h11 := At3.new w10 [] none 0 0 none 0 0
      have hx11 := HX10.out.1.below ((Below.refl w10.heap.size w10).alloc (Nat.le_refl _) (.cells #[S [], .slice none 0 0, .slice none 0 0] 25)) HX10.out.2
      have HB11 := Lib.hid (HB10.out.alloc HB10.out.size (.cells #[S [], .slice none 0 0, .slice none 0 0] 25))
      have HX11 := Lib.hid (And.intro h11 (And.intro hx11 (And.intro h11.lt hx11.lt)))
      clear h11 hx11 HX10
      generalize w10.alloc (.cells #[S [], .slice none 0 0, .slice none 0 0] 25) = w11 at *
      go_wp2_with fail
      refine (HE3.out _ HB11.out).mono ?_
      rintro e w12 ⟨rfl, hb12⟩
      have HB12 := Lib.hid (HB11.out.trans (hb12.mono HB11.out.size))
      obtain ⟨a0, a1, a2⟩ := (HX11.out.1.below hb12 HX11.out.2.2.1).cells
      obtain ⟨b0, b1, b2⟩ := (HX11.out.2.1.below hb12 HX11.out.2.2.2).cells
      clear hb12 HX11
      go_wp2_with fail
      clear a0 a1 a2 b0 b1 b2
      refine (HSZ.out _).mono ?_
      rintro e w13 ⟨rfl, hb13⟩
      have HB13 := Lib.hid (HB12.out.trans (hb13.mono HB12.out.size))
      clear hb13
      go_wp2_with fail
      go_ret
      exact ⟨rfl, (HK.out w13 HB13.out).2.1⟩
    · have HRD : Hid (∀ W, Calls Tryz.prog 9 #[S p] W fun e w' => (∃ v kk, e = .returned (.tuple #[PV v [] false kk, .int .i64 0])) ∧ Below W.heap.size W w') := Lib.hid fun W => (readR_any p W h9).mono fun e w' h => by
        refine ⟨?_, h.2⟩
        obtain ⟨rt, hrt, hrel⟩ := rd_some ht
        rcases h.1 with ⟨k', hk', h4, h2, e1⟩ | ⟨_, rt', v, xs, kk, hrt', e1, hnv, hrp, _⟩
        · have := (h2 h12).2
          rw [hrt] at this; cases this
        · exact ⟨v, kk, e1⟩
      obtain ⟨D, hD⟩ : ∃ D, D = dfM t (sgs p) := ⟨_, rfl⟩
      have HDS : Hid (D.sg = sgs p ∧ D.n ≤ 100000 ∧ D.tk.length = D.n ∧ ∀ i, i < D.n → (ro D.nx i).length ≤ 100000) := Lib.hid (by
        obtain ⟨hlv, _⟩ := par_leaves ht
        have hl12 : (leaves t).length ≤ 12 := by
          rw [hlv]
          have : (lets p).length ≤ p.length := List.length_filter_le _ _
          omega
        have hs12 : (sgs p).length ≤ 12 := by have := sgs_lenD p; rw [← hlv] at this; omega
        rw [hD]; exact dfM_small hl12 hs12)
      have HMC : Hid (∀ W0 : World, Calls Tryz.prog 10 #[S p] W0 fun e w' => (∃ A' n' k' A2' n2' k2', e = .returned (mcv (sgs p) A' n' k' A2' n2' k2') ∧ ∀ W : World, (∀ k, W0.heap.size ≤ k → k < w'.heap.size → W.heap[k]? = w'.heap[k]?) → MacW W W.heap.size A' n' A2' n2' D) ∧ Below W0.heap.size W0 w') := Lib.hid fun W0 => by
        have h := machine_any p t he ht W0
        rwa [← hD] at h
      have HOF : Hid (∀ W, Calls Tryz.prog 11 #[S p] W fun e w' => (∃ A' k' A2' k2', e = .returned (.tuple #[mcv (sgs p) A' D.n k' A2' D.n k2', .nilIface]) ∧ MacW w' w'.heap.size A' D.n A2' D.n D) ∧ Below W.heap.size W w') := Lib.hid fun W => by
        have h := dfaOf_ok p t W h12 he ht
        rwa [← hD] at h
      have HSM : Hid (∀ W A1 A2 A1' A2' c1 c2 n' c1' m' c2', MacW W W.heap.size A1 D.n A2 D.n D → MacW W W.heap.size A1' n' A2' m' D → Calls Tryz.prog 12 #[mcv (sgs p) A1 D.n c1 A2 D.n c2, mcv (sgs p) A1' n' c1' A2' m' c2'] W fun e w' => e = .returned (.bool true) ∧ Below W.heap.size W w') := Lib.hid fun W A1 A2 A1' A2' c1 c2 n' c1' m' c2' h1 h2 => by
        obtain ⟨e1, e2, e3, e4⟩ := HDS.out
        have h := smM_any D D A1 A2 A1' A2' D.n c1 D.n c2 n' c1' m' c2' W.heap.size W h1 h2 (Nat.le_refl _) e2 e2 e4
        rw [e1, show decide (D = D) = true from decide_eq_true rfl] at h
        exact h
      clear hHE hD he ht h12 h9 hs9 HSZ HDS
      generalize sgs p = sg at *
      generalize D.n = dn at *
      go_enter Tryz.func3, Tryz.ntmps3
      go_wp2_with fail
      clear hw1 a0 a1 a2
      refine (HWR.out _ HB1.out).mono ?_
      rintro e w2 ⟨rfl, hb2⟩
      have HB2 := Lib.hid (HB1.out.trans (hb2.mono HB1.out.size))
      obtain ⟨a0, a1, a2⟩ := (HK.out w2 HB2.out).1.cells
      clear hb2
      go_wp2_with fail
      clear a0 a1 a2
      refine (HCK.out _ HB2.out).mono ?_
      rintro e w3 ⟨rfl, hb3⟩
      have HB3 := Lib.hid (HB2.out.trans (hb3.mono HB2.out.size))
      obtain ⟨a0, a1, a2⟩ := (HK.out w3 HB3.out).1.cells
      clear hb3
      go_wp2_with fail
      clear a0 a1 a2
      refine (HEK.out _ HB3.out).mono ?_
      rintro e w4 ⟨rfl, hb4⟩
      have HB4 := Lib.hid (HB3.out.trans (hb4.mono HB3.out.size))
      obtain ⟨a0, a1, a2⟩ := (HK.out w4 HB4.out).1.cells
      clear hb4
      go_wp2_with fail
      clear a0 a1 a2
      refine (HTA.out _ HB4.out).mono ?_
      rintro e w5 ⟨rfl, hb5⟩
      have HB5 := Lib.hid (HB4.out.trans (hb5.mono HB4.out.size))
      obtain ⟨a0, a1, a2⟩ := (HK.out w5 HB5.out).1.cells
      clear hb5
      go_wp2_with fail
      clear a0 a1 a2
      refine (HE0.out _ HB5.out).mono ?_
      rintro e w6 ⟨rfl, hb6⟩
      have HB6 := Lib.hid (HB5.out.trans (hb6.mono HB5.out.size))
      obtain ⟨a0, a1, a2⟩ := (HK.out w6 HB6.out).1.cells
      clear hb6
      go_wp2_with fail
      clear a0 a1 a2
      refine (HTR.out _ HB6.out).mono ?_
      rintro e w7 ⟨rfl, hb7⟩
      have HB7 := Lib.hid (HB6.out.trans (hb7.mono HB6.out.size))
      obtain ⟨a0, a1, a2⟩ := (HK.out w7 HB7.out).1.cells
      clear hb7
      clear a0 a1 a2
      go_wp2_with fail
      refine (HRD.out _).mono ?_
      rintro e w8 ⟨⟨v, kk, rfl⟩, hb8⟩
      have HB8 := Lib.hid (HB7.out.trans (hb8.mono HB7.out.size))
      have h9' := At3.new w8 [] none 0 0 none 0 0
      have HB9 := Lib.hid (HB8.out.alloc HB8.out.size (.cells #[S [], .slice none 0 0, .slice none 0 0] 25))
      have HX9 := Lib.hid (And.intro h9' h9'.lt)
      clear hb8 h9' HRD
      go_upto_region 10 with fail
      generalize w8.alloc (.cells #[S [], .slice none 0 0, .slice none 0 0] 25) = w9 at *
      go_wp2_with fail
      refine (HMC.out _).mono ?_
      rintro e w10 ⟨⟨P1, n1, k1', P2, n2, k2', rfl, hm10⟩, hb10⟩
      have hx10 := HX9.out.1.below hb10 HX9.out.2
      have HB10 := Lib.hid (HB9.out.trans (hb10.mono HB9.out.size))
      have HM11 : Hid (MacW (((w10.setCell ⟨w8.heap.size, 0, none⟩ (S sg)).setCell ⟨w8.heap.size, 1, none⟩ (.slice P1 n1 k1')).setCell ⟨w8.heap.size, 2, none⟩ (.slice P2 n2 k2')) (((w10.setCell ⟨w8.heap.size, 0, none⟩ (S sg)).setCell ⟨w8.heap.size, 1, none⟩ (.slice P1 n1 k1')).setCell ⟨w8.heap.size, 2, none⟩ (.slice P2 n2 k2')).heap.size P1 n1 P2 n2 D) := Lib.hid (hm10 _ (fun k hk _ => by
        have := HX9.out.2
        simp only [World.setCell, Array.getElem?_modify]
        rw [if_neg (by omega), if_neg (by omega), if_neg (by omega)]))
      have h11 : At3 (((w10.setCell ⟨w8.heap.size, 0, none⟩ (S sg)).setCell ⟨w8.heap.size, 1, none⟩ (.slice P1 n1 k1')).setCell ⟨w8.heap.size, 2, none⟩ (.slice P2 n2 k2')) w8.heap.size sg P1 n1 k1' P2 n2 k2' := set3L hx10
      have HX11 := Lib.hid (And.intro h11 h11.lt)
      have HB11 : Hid (Below w1.heap.size w1 (((w10.setCell ⟨w8.heap.size, 0, none⟩ (S sg)).setCell ⟨w8.heap.size, 1, none⟩ (.slice P1 n1 k1')).setCell ⟨w8.heap.size, 2, none⟩ (.slice P2 n2 k2'))) := Lib.hid (by
        have := HB8.out.size
        exact ((HB10.out.setCell (p := ⟨w8.heap.size, 0, none⟩) this _).setCell (p := ⟨w8.heap.size, 1, none⟩) this _).setCell (p := ⟨w8.heap.size, 2, none⟩) this _)
      obtain ⟨b0, b1, b2, f0, f1, f2⟩ := three_atL hx10
      clear hb10 hx10 HX9 hm10 h11 HMC
      go_upto_region 11 with fail
      generalize ((w10.setCell ⟨w8.heap.size, 0, none⟩ (S sg)).setCell ⟨w8.heap.size, 1, none⟩ (.slice P1 n1 k1')).setCell ⟨w8.heap.size, 2, none⟩ (.slice P2 n2 k2') = w11 at *
      clear b0 b1 b2 f0 f1 f2
      go_wp2_with fail
      refine (HOF.out _).mono ?_
      rintro e w12 ⟨⟨A', k', A2', k2'', rfl, hm12⟩, hb12⟩
      have hx12 := HX11.out.1.below hb12 HX11.out.2
      have hm11 := (HM11.out.below hb12).more hb12.size
      have HB12 := Lib.hid (HB11.out.trans (hb12.mono HB11.out.size))
      go_upto_region 12 with fail
      have hba := (Below.refl w12.heap.size w12).alloc (Nat.le_refl _) (.cells #[S sg, .slice A' dn k', .slice A2' dn k2''] 25)
      have hx13 := At3.new w12 sg A' dn k' A2' dn k2''
      have hy13 := hx12.below hba hx12.lt
      have HB13 := Lib.hid (HB12.out.alloc HB12.out.size (.cells #[S sg, .slice A' dn k', .slice A2' dn k2''] 25))
      have HX13 := Lib.hid (And.intro hx13 (And.intro hy13 (And.intro hx13.lt (And.intro hy13.lt (And.intro ((hm12.below hba).more hba.size) ((hm11.below hba).more hba.size))))))
      clear hb12 hx12 hm12 hm11 hba hx13 hy13 HX11 HM11 HOF
      generalize w12.alloc (.cells #[S sg, .slice A' dn k', .slice A2' dn k2''] 25) = w13 at *
      go_wp2_with fail
      refine (HE0.out _ HB13.out).mono ?_
      rintro e w14 ⟨rfl, hb14⟩
      have HB14 := Lib.hid (HB13.out.trans (hb14.mono HB13.out.size))
      obtain ⟨c1, c2', c3, c4, c5, c6⟩ := HX13.out
      have HSS := Lib.hid (HSM.out w14 A' A2' P1 P2 k' k2'' n1 k1' n2 k2' ((c5.below hb14).more hb14.size) ((c6.below hb14).more hb14.size))
      obtain ⟨a0, a1, a2⟩ := (c1.below hb14 c3).cells
      obtain ⟨b0, b1, b2⟩ := (c2'.below hb14 c4).cells
      clear hb14 HX13 c1 c2' c3 c4 c5 c6 HSM
      go_wp2_with fail
      clear a0 a1 a2 b0 b1 b2
      refine HSS.out.mono ?_
      rintro e w15 ⟨rfl, hb15⟩
      have HB15 := Lib.hid (HB14.out.trans (hb15.mono HB14.out.size))
      clear hb15
      go_wp2_with fail
      go_ret
      exact ⟨rfl, (HK.out w15 HB15.out).2.1⟩
end Go.Proofs.YtchhbnnpannnhaaGreatDoor
