/- DfaParts: the law's walk. No condition but that the two texts together have a length that is a number. -/
import Derived.Test.YtchhbnnpannnhaaDfF
import Derived.Test.YtchhbnnpannnhaaDfL
import Derived.Test.YtchhbnnpannnhaaLsZ
import Derived.Deep.RegionHeld3
namespace Go.Proofs.Ytchhbnnpannnhaa
open Go.RowKit IntWalk Go.Maps
set_option linter.unusedSimpArgs false
set_option linter.unusedVariables false
attribute [local go_sem] byte_at str_app
attribute [local go_sem ↓] Go.wp_at_zero Go.wp_at_succ

/-- The machine with all that its states take turned. -/
def Mc.flip (M : Mc) : Mc := ⟨M.sg, M.nx, M.tk.map fun b => !b⟩
theorem Mc.Ok.flip {M : Mc} (h : M.Ok) : M.flip.Ok := ⟨h.pos, h.small, h.few, by show (M.tk.map _).length = _; rw [List.length_map]; exact h.tak, h.rise, h.row, h.rng⟩
theorem flip_lead {M : Mc} : ∀ {i : Nat} (s : List UInt8), M.flip.leadB i s = M.leadB i s
  | i, [] => rfl
  | i, c :: s => by
    show (if c ∈ M.sg then M.flip.leadB (M.st i (M.sg.idxOf c)) s else none) = if c ∈ M.sg then M.leadB (M.st i (M.sg.idxOf c)) s else none
    rw [flip_lead s]
theorem bo_not {l : List Bool} {j : Nat} (h : j < l.length) : bo (l.map fun b => !b) j = !bo l j := by
  unfold bo
  rw [List.getElem?_map, List.getElem?_eq_getElem h]; rfl
theorem takesV_no {M : Mc} {s : List UInt8} (h : takesE M s ≠ 0) : takesV M s = false := by
  unfold takesE at h
  unfold takesV
  by_cases hw : M.wrong = 0
  · rw [if_neg (fun x => x hw)] at h
    by_cases hl : 24 < s.length
    · rw [decide_eq_false (by omega : ¬ s.length ≤ 24)]; simp
    · rw [if_neg hl] at h; exact absurd rfl h
  · rw [decide_eq_false hw]; simp
theorem takesE_zero {M : Mc} {s : List UInt8} (h : takesE M s = 0) : M.wrong = 0 ∧ s.length ≤ 24 ∧ takesV M s = M.takesB s := by
  unfold takesE at h
  by_cases hw : M.wrong = 0
  · rw [if_neg (fun x => x hw)] at h
    by_cases hl : 24 < s.length
    · rw [if_pos hl] at h; exact absurd h (by decide)
    · refine ⟨hw, by omega, ?_⟩
      unfold takesV
      rw [decide_eq_true hw, decide_eq_true (by omega : s.length ≤ 24)]; simp
  · rw [if_pos hw] at h; exact absurd h hw
theorem flip_takes {M : Mc} (hO : M.Ok) {s : List UInt8} (hs : s.length ≤ 24) {j : Nat} (h : M.leadB 0 s = some j) : takesE M.flip s = 0 ∧ takesV M.flip s = !bo M.tk j := by
  have hw : M.flip.wrong = 0 := Mc.wrong_zero.2 hO.flip
  have hj := hO.leadB_lt hO.pos h
  constructor
  · unfold takesE
    rw [if_neg (fun x => x hw), if_neg (by omega)]
  · unfold takesV
    rw [decide_eq_true hw, decide_eq_true hs]
    unfold Mc.takesB
    rw [flip_lead, h]
    show (true && true && bo (M.tk.map fun b => !b) j) = _
    rw [bo_not (by rw [hO.tak]; exact hj)]; simp
/-- The machine that the law makes, under way. -/
structure TkR (sg : List UInt8) (A : Option Addr) (n c : Nat) (wo : World) (g : Nat) (T : List Bool) (vT : Value) (w : World) : Prop where
  out : w.heap[g]? = some (.cells #[S sg, .slice A n c, vT] 39 (0, 0))
  tks : w.ownsRow (g + 1) 4 1 vT (T.map Value.bool).length (T.map Value.bool)
  low : Below g wo w
theorem TkR.addT {sg : List UInt8} {A : Option Addr} {n c : Nat} {wo : World} {g : Nat} {T : List Bool} {vT v' : Value} {w w6 : World} {b : Bool} (h : TkR sg A n c wo g T vT w) (hgr : w.grownBy w6 vT.ownBlock)
    (hown : w6.ownsRow (g + 1) 4 1 v' ((T ++ [b]).map Value.bool).length ((T ++ [b]).map Value.bool)) : TkR sg A n c wo g (T ++ [b]) v' (w6.setCell ⟨g, 2, none⟩ v') := by
  have hlt : g < w.heap.size := (Array.getElem?_eq_some_iff.1 h.out).1
  have hTk : ∀ k, vT.ownBlock = some k → g + 1 ≤ k := fun k hk => own_lt h.tks hk
  have ho6 : w6.heap[g]? = some (.cells #[S sg, .slice A n c, vT] 39 (0, 0)) := (hgr.block g hlt fun e => by have := hTk g e.symm; omega).trans h.out
  have hl6 := h.low.grown hgr (by have := h.low.size; omega) (fun k hk => by have := hTk k hk; omega)
  have hst := grown_setJ w6 g 2 v'
  refine ⟨set_at2 ho6, hown.kept hst ?_, hl6.setCell (p := ⟨g, 2, none⟩) (Nat.le_refl _) _⟩
  cases hv : v'.ownBlock with
  | none => exact .inl rfl
  | some k =>
    right
    rw [← hv]; intro e; rw [hv] at e; injection e with e
    have := own_lt hown hv
    omega
set_option maxRecDepth 100000 in
set_option maxHeartbeats 8000000 in
theorem dfaParts_walk (M : Mc) (A A2 : Option Addr) (n c m c2 B : Nat) (a b : List UInt8) (w : World) (hM : MacW w B A n A2 m M) (hB : B ≤ w.heap.size) (h9 : a.length + b.length ≤ 9223372036854775807) :
    Calls Try.prog 5 #[mcv M.sg A n c A2 m c2, S a, S b] w fun e w' => e = .returned (.bool true) ∧ Below w.heap.size w w' := by
  obtain ⟨i2, hi2, hx0, hx1, hx2⟩ := info_parts info_boolL
  obtain ⟨c0, c1, c2'⟩ := mac_cells w M.sg A n c A2 m c2 39
  have hb1 := (Below.refl w.heap.size w).alloc (Nat.le_refl _) (.cells #[S M.sg, .slice A n c, .slice A2 m c2] 39)
  have HR1 : Hid ((w.alloc (.cells #[S M.sg, .slice A n c, .slice A2 m c2] 39)).heap[w.heap.size]? = some (.cells #[S M.sg, .slice A n c, .slice A2 m c2] 39 (0, 0))) := Lib.hid (heap_alloc_new w _)
  generalize hw1 : w.alloc (.cells #[S M.sg, .slice A n c, .slice A2 m c2] 39) = w1 at *
  have HB1 := Lib.hid hb1
  have HM1 := Lib.hid (hM.below (hb1.mono hB))
  have HBB := Lib.hid hB
  clear hb1 hM hB c0 c1 c2'
  have HF := Lib.hid (dfaFact_any w1)
  have hcat : ¬ 9223372036854775807 < a.length + b.length := by omega
  go_enter Try.func5, Try.ntmps5
  go_wp2_with fail
  clear hw1
  refine HF.out.mono ?_
  rintro e w2 ⟨rfl, hb2⟩
  have hg1 : w.heap.size < w1.heap.size := (Array.getElem?_eq_some_iff.1 HR1.out).1
  have HB2 := Lib.hid (HB1.out.trans (hb2.mono HB1.out.size))
  have HR2 := Lib.hid ((hb2.block w.heap.size hg1).trans HR1.out)
  have HM2 := Lib.hid (HM1.out.below (hb2.mono (Nat.le_trans HBB.out HB1.out.size)))
  have HT := Lib.hid (takes_any M A A2 n c m c2 B (a ++ b) w2 HM2.out (Nat.le_trans HBB.out HB2.out.size))
  clear hb2 HF HB1 HR1 HM1 hg1
  obtain ⟨d0, d1, d2, _, _, _⟩ := three_atL HR2.out
  have hg2 : w.heap.size < w2.heap.size := (Array.getElem?_eq_some_iff.1 HR2.out).1
  by_cases hE : takesE M (a ++ b) = 0
  · obtain ⟨hw, h24, hV⟩ := takesE_zero hE
    have HO := Lib.hid (Mc.wrong_zero.1 hw)
    obtain rfl : m = n := by have h1 := HM2.out.n_eq; have h2 := HM2.out.m_eq; have := HO.out.tak; omega
    rw [hE, hV, show errV 0 = .nilIface from rfl] at HT
    have HW := Lib.hid hw
    have H24 := Lib.hid h24
    have HLA : Hid (M.takesB (a ++ b) = match (M.leadB 0 a).bind fun j => M.leadB j b with | some j => bo M.tk j | none => false) := Lib.hid (by unfold Mc.takesB; rw [Mc.leadB_app]; rfl)
    have hal : a.length ≤ 100000 := by rw [List.length_append] at h24; omega
    have hbl : b.length ≤ 100000 := by rw [List.length_append] at h24; omega
    obtain ⟨V, hVV⟩ : ∃ V, V = M.takesB (a ++ b) := ⟨_, rfl⟩
    rw [← hVV] at HT
    have HVV := Lib.hid hVV
    clear hE hV hw hVV h24
    go_wp2_with fail
    refine HT.out.mono ?_
    rintro e w3 ⟨rfl, hb3⟩
    have HB3 := Lib.hid (HB2.out.trans (hb3.mono HB2.out.size))
    have HR3 := Lib.hid ((hb3.block w.heap.size hg2).trans HR2.out)
    have HM3 := Lib.hid (HM2.out.below (hb3.mono (Nat.le_trans HBB.out HB2.out.size)))
    have HWR := Lib.hid (wrong_any M A A2 m c m c2 B w3 HM3.out (Nat.le_trans HBB.out HB3.out.size))
    rw [HW.out] at HWR
    clear hb3 HT HB2 HR2 HM2 hg2 d0 d1 d2
    obtain ⟨d0, d1, d2, _, _, _⟩ := three_atL HR3.out
    have hg3 : w.heap.size < w3.heap.size := (Array.getElem?_eq_some_iff.1 HR3.out).1
    go_wp2_with fail
    refine HWR.out.mono ?_
    rintro e w4 ⟨rfl, hb4⟩
    have HB4 := Lib.hid (HB3.out.trans (hb4.mono HB3.out.size))
    have HR4 := Lib.hid ((hb4.block w.heap.size hg3).trans HR3.out)
    have HM4 := Lib.hid (HM3.out.below (hb4.mono (Nat.le_trans HBB.out HB3.out.size)))
    have HL1 : Hid (Calls Try.prog 15 #[mcv M.sg A m c A2 m c2, .int .i64 0, S a] w4 fun e w' => e = .returned (.int .i64 (ledV M 0 a)) ∧ Below w4.heap.size w4 w') := Lib.hid (leads_any M HO.out A A2 m c m c2 B 0 a w4 HM4.out (Nat.le_trans HBB.out HB4.out.size) HO.out.pos hal)
    clear hb4 HWR HB3 HR3 HM3 hg3 d0 d1 d2
    obtain ⟨d0, d1, d2, _, _, _⟩ := three_atL HR4.out
    have hg4 : w.heap.size < w4.heap.size := (Array.getElem?_eq_some_iff.1 HR4.out).1
    cases hq : M.leadB 0 a with
    | none =>
      have hv : ledV M 0 a = -1 := by unfold ledV; rw [hq]
      have hV0 : V = false := by rw [HVV.out, HLA.out, hq]; rfl
      rw [hv] at HL1
      subst hV0
      clear hq hv HLA HVV
      go_wp2_with fail
      refine HL1.out.mono ?_
      rintro e w5 ⟨rfl, hb5⟩
      have HB5 := Lib.hid (HB4.out.trans (hb5.mono HB4.out.size))
      clear hb5
      go_wp2_with fail
      go_ret
      exact ⟨rfl, HB5.out⟩
    | some j =>
      have hv : ledV M 0 a = (j : Int) := by unfold ledV; rw [hq]
      have hjn := HO.out.leadB_lt HO.out.pos hq
      rw [hv] at HL1
      have HLB : Hid (M.takesB (a ++ b) = match M.leadB j b with | some j => bo M.tk j | none => false) := Lib.hid (by rw [HLA.out, hq]; rfl)
      have HQ := Lib.hid hq
      clear hv HLA hq
      go_wp2_with fail
      refine HL1.out.mono ?_
      rintro e w5 ⟨rfl, hb5⟩
      have HB5 := Lib.hid (HB4.out.trans (hb5.mono HB4.out.size))
      have HR5 := Lib.hid ((hb5.block w.heap.size hg4).trans HR4.out)
      have HM5 := Lib.hid (HM4.out.below (hb5.mono (Nat.le_trans HBB.out HB4.out.size)))
      have HL2 := Lib.hid (leads_any M HO.out A A2 m c m c2 B j b w5 HM5.out (Nat.le_trans HBB.out HB5.out.size) hjn hbl)
      clear hb5 HL1 HB4 HR4 HM4 hg4 d0 d1 d2
      obtain ⟨d0, d1, d2, _, _, _⟩ := three_atL HR5.out
      have hg5 : w.heap.size < w5.heap.size := (Array.getElem?_eq_some_iff.1 HR5.out).1
      have z1 : ¬ (j : Int) < 0 := by omega
      cases hq2 : M.leadB j b with
      | none =>
        have hv : ledV M j b = -1 := by unfold ledV; rw [hq2]
        have hV0 : V = false := by rw [HVV.out, HLB.out, hq2]
        rw [hv] at HL2
        subst hV0
        clear hq2 hv HLB HVV
        go_wp2_with fail
        refine HL2.out.mono ?_
        rintro e w6 ⟨rfl, hb6⟩
        have HB6 := Lib.hid (HB5.out.trans (hb6.mono HB5.out.size))
        clear hb6
        go_wp2_with fail
        go_ret
        exact ⟨rfl, HB6.out⟩
      | some k =>
        have hv : ledV M j b = (k : Int) := by unfold ledV; rw [hq2]
        have hkn := HO.out.leadB_lt hjn hq2
        rw [hv] at HL2
        have HV0 : Hid (V = bo M.tk k) := Lib.hid (by rw [HVV.out, HLB.out, hq2])
        have HLK : Hid (M.leadB 0 (a ++ b) = some k) := Lib.hid (by rw [Mc.leadB_app, HQ.out]; exact hq2)
        clear hv HLB HVV hq2
        go_wp2_with fail
        refine HL2.out.mono ?_
        rintro e w6 ⟨rfl, hb6⟩
        have HB6 := Lib.hid (HB5.out.trans (hb6.mono HB5.out.size))
        have HR6 := Lib.hid ((hb6.block w.heap.size hg5).trans HR5.out)
        have HM6 := Lib.hid (HM5.out.below (hb6.mono (Nat.le_trans HBB.out HB5.out.size)))
        clear hb6 HL2 HB5 HR5 HM5 hg5 d0 d1 d2
        obtain ⟨d0, d1, d2, _, _, _⟩ := three_atL HR6.out
        have hg6 : w.heap.size < w6.heap.size := (Array.getElem?_eq_some_iff.1 HR6.out).1
        have z2 : ¬ (k : Int) < 0 := by omega
        have HT7 := Lib.hid (show TkR M.sg A m c w6 w6.heap.size [] (.slice none 0 0) (w6.alloc (.cells #[S M.sg, .slice A m c, .slice none 0 0] 39)) from ⟨heap_alloc_new w6 _, World.ownsRow_nil _ _ _ _, (Below.refl _ w6).alloc (Nat.le_refl _) _⟩)
        have HC2 := Lib.hid d2
        have hm1000 : m ≤ 1000 := by have h1 := HM6.out.n_eq; have := HO.out.small; omega
        have HTK0 : Hid (M.tk.length = m) := Lib.hid (HM6.out.m_eq)
        have hg6w := hg6
        go_upto_region 18 with fail
        generalize w6.alloc (.cells #[S M.sg, .slice A m c, .slice none 0 0] 39) = w7 at *
        clear d0 d1 d2
        generalize hg : w6.heap.size = g at *
        have HGG := Lib.hid hg
        clear hg
        go_wp2_with fail
        go_loopg [13] m (fun f iv wr => ∃ (i : Nat) (vT : Value), i + f = m ∧ iv = .int .i64 (i : Int) ∧ Hid (TkR M.sg A m c w6 g ((M.tk.map fun b => !b).take i) vT wr))
        case atStart => exact ⟨0, _, by omega, rfl, HT7⟩
        case round =>
          clear HT7
          obtain ⟨i, vT, hif, rfl, HTk⟩ := hrel
          have a2 := (HTk.out.low.cell (p := ⟨w.heap.size, 2, none⟩) (by show w.heap.size < g; omega)).trans HC2.out
          have HMr := Lib.hid (HM6.out.below (HTk.out.low.mono (by have := HBB.out; omega)))
          have hgw : g < wr.heap.size := (Array.getElem?_eq_some_iff.1 HTk.out.out).1
          by_cases hi : i < m
          · obtain ⟨f, rfl⟩ : ∃ f, gk = f + 1 := ⟨gk - 1, by omega⟩
            obtain ⟨b2, o2, hA2, hb2, ct⟩ := HMr.out.tks.at_ hi
            subst hA2
            have hb2g : b2 < g := by have := HBB.out; omega
            have p1 : (i : Int) < (m : Int) := by omega
            have p3 : IntKind.i64.wrap ((i : Int) + 1) = (i : Int) + 1 := i64_in _ (by omega)
            have HTS : Hid ((M.tk.map fun b => !b).take (i + 1) = (M.tk.map fun b => !b).take i ++ [!bo M.tk i]) := Lib.hid (by
              have hl : i < M.tk.length := by rw [HTK0.out]; exact hi
              rw [List.take_add_one, List.getElem?_map, List.getElem?_eq_getElem hl]
              unfold bo
              rw [List.getElem?_eq_getElem hl]; rfl)
            have HTL : Hid ((((M.tk.map fun b => !b).take i).map Value.bool).length ≤ 1000) := Lib.hid (by rw [List.length_map]; have := List.length_take_le i (M.tk.map fun b => !b); omega)
            obtain ⟨AT, cT, hvT, _⟩ := own_shape HTk.out.tks
            subst hvT
            generalize (M.tk.map fun b => !b).take i = Tk at *
            generalize bo M.tk i = bv at *
            have HTD : Hid (TkR M.sg A m c w6 g Tk (.slice AT (Tk.map Value.bool).length cT) wr.drew) := Lib.hid ⟨HTk.out.out, HTk.out.tks, below_drewN HTk.out.low 1⟩
            have HTK : Hid (wr.drew.ownsRow (g + 1) 4 1 (.slice AT (Tk.map Value.bool).length cT) (Tk.map Value.bool).length (Tk.map Value.bool)) := Lib.hid HTk.out.tks
            obtain ⟨_, _, t2, _, _, _⟩ := three_atL HTk.out.out
            generalize hTV : Tk.map Value.bool = TV at *
            have HTV := Lib.hid hTV
            clear hTV
            go_wp2_with fail
            have s0 : wr.drew.cell? ⟨w.heap.size, 2, none⟩ = some (.slice (some ⟨b2, o2, none⟩) m c2) ∧ wr.drew.cell? ⟨b2, o2 + i, none⟩ = some (.bool bv) := ⟨a2, ct⟩
            have s1 : (wr.drew.alloc (.cells #[.bool (!bv)] 4)).cell? ⟨w.heap.size, 2, none⟩ = some (.slice (some ⟨b2, o2, none⟩) m c2) ∧ (wr.drew.alloc (.cells #[.bool (!bv)] 4)).cell? ⟨b2, o2 + i, none⟩ = some (.bool bv) := ⟨(World.cell?_alloc_lt wr.drew _ ⟨w.heap.size, 2, none⟩ (show w.heap.size < wr.heap.size by omega)).trans s0.1, (World.cell?_alloc_lt wr.drew _ ⟨b2, o2 + i, none⟩ (show b2 < wr.heap.size by omega)).trans s0.2⟩
            have d2e : (wr.drew.alloc (.cells #[.bool (!bv)] 4)).cell? ⟨g, 2, none⟩ = some (.slice AT TV.length cT) := (World.cell?_alloc_lt wr.drew _ ⟨g, 2, none⟩ (show g < wr.heap.size by omega)).trans t2
            have d2e2 : (wr.alloc (.cells #[.bool (!bv)] 4)).cell? ⟨g, 2, none⟩ = some (.slice AT TV.length cT) := d2e
            refine wp_region_held_drew (S := fun W => W.cell? ⟨w.heap.size, 2, none⟩ = some (.slice (some ⟨b2, o2, none⟩) m c2) ∧ W.cell? ⟨b2, o2 + i, none⟩ = some (.bool bv)) (by first | assumption | kernel_rfl | rfl) s0 (fun hH => ?_)
            refine wpAnyH_take (i := 0) (v := ?_) rfl (by kernel_rfl) (by kernel_rfl) (by kernel_rfl) (fun _ _ _ h => h) (Or.inl ⟨by rfl, ?_⟩) hH ?_
            rotate_left
            · intro W hSw; (try dsimp only at hSw); go_simp; try with_reducible rfl
            try simp only [Act.put, List.getElem_toArray, List.getElem_cons_zero, List.getElem_cons_succ, List.setIfInBounds_toArray, List.set_cons_zero, List.set_cons_succ]
            refine wpAnyH_take (i := 2) (v := ?_) rfl (by kernel_rfl) (by kernel_rfl) (by kernel_rfl) (fun _ _ _ h => h) (Or.inl ⟨by rfl, ?_⟩) hH ?_
            rotate_left
            · intro W hSw; (try dsimp only at hSw); go_simp; try with_reducible rfl
            try simp only [Act.put, List.getElem_toArray, List.getElem_cons_zero, List.getElem_cons_succ, List.setIfInBounds_toArray, List.set_cons_zero, List.set_cons_succ]
            refine wpAnyH_take (i := 3) (v := ?_) rfl (by kernel_rfl) (by kernel_rfl) (by kernel_rfl) (fun _ _ _ h => h) (Or.inl ⟨by rfl, ?_⟩) hH ?_
            rotate_left
            · intro W hSw; (try dsimp only at hSw); go_simp; try with_reducible rfl
            try simp only [Act.put, List.getElem_toArray, List.getElem_cons_zero, List.getElem_cons_succ, List.setIfInBounds_toArray, List.set_cons_zero, List.set_cons_succ]
            refine wpAnyH_take (i := 4) (v := ?_) rfl (by kernel_rfl) (by kernel_rfl) (by kernel_rfl) (fun _ _ _ h => h) (Or.inl ⟨by rfl, ?_⟩) hH ?_
            rotate_left
            · intro W hSw; (try dsimp only at hSw); go_simp; try with_reducible rfl
            try simp only [Act.put, List.getElem_toArray, List.getElem_cons_zero, List.getElem_cons_succ, List.setIfInBounds_toArray, List.set_cons_zero, List.set_cons_succ]
            refine wpAnyH_take (i := 5) (v := ?_) rfl (by kernel_rfl) (by kernel_rfl) (by kernel_rfl) (fun _ _ _ h => h) (Or.inl ⟨by rfl, ?_⟩) hH ?_
            rotate_left
            · intro W hSw; (try dsimp only at hSw); go_simp; try with_reducible rfl
            try simp only [Act.put, List.getElem_toArray, List.getElem_cons_zero, List.getElem_cons_succ, List.setIfInBounds_toArray, List.set_cons_zero, List.set_cons_succ]
            refine wpAnyH_take (i := 6) (v := ?_) rfl (by kernel_rfl) (by kernel_rfl) (by kernel_rfl) (fun _ _ _ h => h) (Or.inl ⟨by rfl, ?_⟩) hH ?_
            rotate_left
            · intro W hSw; (try dsimp only at hSw); go_simp; try with_reducible rfl
            try simp only [Act.put, List.getElem_toArray, List.getElem_cons_zero, List.getElem_cons_succ, List.setIfInBounds_toArray, List.set_cons_zero, List.set_cons_succ]
            refine wpAnyH_take (i := 7) (v := ?_) rfl (by kernel_rfl) (by kernel_rfl) (by kernel_rfl) (fun _ _ _ h => h) (Or.inl ⟨by rfl, ?_⟩) hH ?_
            rotate_left
            · intro W hSw; (try dsimp only at hSw); go_simp; try with_reducible rfl
            try simp only [Act.put, List.getElem_toArray, List.getElem_cons_zero, List.getElem_cons_succ, List.setIfInBounds_toArray, List.set_cons_zero, List.set_cons_succ]
            refine wpAnyH_ready (rs := [1, 8]) (by kernel_rfl) (by simp) (AllReadyH.cons rfl (fun K hK => ?_) (AllReadyH.cons rfl (fun K hK => ?_) AllReadyH.nil))
            · go_simp
              change K _ wr.drew
              refine hK.out _ _ s0 (fun hH5 => ?_)
              clear hK K
              try simp only [Act.put, List.getElem_toArray, List.getElem_cons_zero, List.getElem_cons_succ, List.setIfInBounds_toArray, List.set_cons_zero, List.set_cons_succ]
              refine wpAnyH_ready (rs := [8]) (by kernel_rfl) (by simp) (AllReadyH.cons rfl (fun K hK => ?_) AllReadyH.nil)
              go_simp
              change K _ (wr.drew.alloc (.cells #[.bool (!bv)] 4))
              refine hK.out _ _ s1 (fun hH5 => ?_)
              clear hK K
              try simp only [Act.put, List.getElem_toArray, List.getElem_cons_zero, List.getElem_cons_succ, List.setIfInBounds_toArray, List.set_cons_zero, List.set_cons_succ]
              refine wpAnyH_ready (rs := [9]) (by kernel_rfl) (by simp) (AllReadyH.cons rfl (fun K hK => ?_) AllReadyH.nil)
              rw [if_pos (by rfl)]
              refine wp_append1g (w := wr.drew) (.tmp 62) (.tmp 69) _ rfl 4 i2 _ Try.underlying37 hi2 hx0 hx1 (by omega) rfl (g + 1) (.slice AT TV.length cT) _ (.bool (!bv)) rfl rfl rfl HTK.out (by have := HTL.out; omega) (by show g + 1 ≤ wr.heap.size; omega) ?_
              intro v2 w8 hown2 hgr2 hloc2
              obtain ⟨Av2, nv2, cv2, ev2⟩ : ∃ A n c, v2 = .slice A n c := by obtain ⟨A', c', e, _⟩ := own_shape hown2; exact ⟨A', _, c', e⟩
              subst ev2
              have hTo : ∀ k, (Value.slice AT TV.length cT).ownBlock = some k → g + 1 ≤ k := fun k hk => own_lt HTK.out hk
              have s2 : w8.cell? ⟨w.heap.size, 2, none⟩ = some (.slice (some ⟨b2, o2, none⟩) m c2) ∧ w8.cell? ⟨b2, o2 + i, none⟩ = some (.bool bv) := ⟨(World.cell?_of_block (a := ⟨w.heap.size, 2, none⟩) (hgr2.block (w.heap.size) (show w.heap.size < wr.heap.size by omega) (fun e => by have := hTo _ e.symm; omega))).trans s0.1, (World.cell?_of_block (a := ⟨b2, o2 + i, none⟩) (hgr2.block b2 (show b2 < wr.heap.size by omega) (fun e => by have := hTo _ e.symm; omega))).trans s0.2⟩
              have hR6 := Lib.hid (HTD.out.addT (b := !bv) hgr2 (by rw [List.map_append, HTV.out]; exact hown2))
              have hO6 : w8.heap[g]? = some (.cells #[S M.sg, .slice A m c, .slice AT TV.length cT] 39 (0, 0)) := (hgr2.block (g) (show g < wr.heap.size by omega) (fun e => by have := hTo _ e.symm; omega)).trans HTD.out.out
              obtain ⟨_, _, g2, _, _, g5⟩ := three_atL hO6
              try simp only [Act.put, List.getElem_toArray, List.getElem_cons_zero, List.getElem_cons_succ, List.setIfInBounds_toArray, List.set_cons_zero, List.set_cons_succ]
              refine hK.out _ _ s2 (fun hH7 => ?_)
              clear hK K
              try simp only [Act.put, List.getElem_toArray, List.getElem_cons_zero, List.getElem_cons_succ, List.setIfInBounds_toArray, List.set_cons_zero, List.set_cons_succ]
              refine wpAnyH_take (i := 10) (v := ?_) rfl (by kernel_rfl) (by kernel_rfl) (by kernel_rfl) (fun _ _ _ h => h) (Or.inl ⟨by rfl, ?_⟩) hH7 ?_
              rotate_left
              · intro W hSw; (try dsimp only at hSw); go_simp; try with_reducible rfl
              try simp only [Act.put, List.getElem_toArray, List.getElem_cons_zero, List.getElem_cons_succ, List.setIfInBounds_toArray, List.set_cons_zero, List.set_cons_succ]
              refine wpAnyH_ready (rs := [11]) (by kernel_rfl) (by simp) (AllReadyH.cons rfl (fun K hK => ?_) AllReadyH.nil)
              go_simp
              change K _ (w8.setCell ⟨g, 2, none⟩ (.slice Av2 nv2 cv2))
              have s3 : (w8.setCell ⟨g, 2, none⟩ (.slice Av2 nv2 cv2)).cell? ⟨w.heap.size, 2, none⟩ = some (.slice (some ⟨b2, o2, none⟩) m c2) ∧ (w8.setCell ⟨g, 2, none⟩ (.slice Av2 nv2 cv2)).cell? ⟨b2, o2 + i, none⟩ = some (.bool bv) := ⟨(World.cell?_setCell_far w8 ⟨g, 2, none⟩ ⟨w.heap.size, 2, none⟩ _ (by show g ≠ w.heap.size; omega)).trans s2.1, (World.cell?_setCell_far w8 ⟨g, 2, none⟩ ⟨b2, o2 + i, none⟩ _ (by show g ≠ b2; omega)).trans s2.2⟩
              refine hK.out _ _ s3 (fun hH8 => ?_)
              clear hK K
              try simp only [Act.put, List.getElem_toArray, List.getElem_cons_zero, List.getElem_cons_succ, List.setIfInBounds_toArray, List.set_cons_zero, List.set_cons_succ]
              refine wpAnyH_done (by kernel_rfl) ?_ _
              generalize w8.setCell ⟨g, 2, none⟩ (.slice Av2 nv2 cv2) = w9 at *
              clear s0 s1 s2 s3 d2e d2e2 hO6 g2 g5 hown2 hgr2 hloc2 hTo a2 ct t2 HTk HTK
              go_wp2_with fail
              go_roundg f
              case measure => omega
              case rel => exact ⟨i + 1, _, by omega, by simp, by rw [HTS.out]; exact hR6⟩
            · go_simp
              change K _ (wr.drew.alloc (.cells #[.bool (!bv)] 4))
              refine hK.out _ _ s1 (fun hH5 => ?_)
              clear hK K
              try simp only [Act.put, List.getElem_toArray, List.getElem_cons_zero, List.getElem_cons_succ, List.setIfInBounds_toArray, List.set_cons_zero, List.set_cons_succ]
              refine wpAnyH_ready (rs := [1]) (by kernel_rfl) (by simp) (AllReadyH.cons rfl (fun K hK => ?_) AllReadyH.nil)
              go_simp
              change K _ (wr.drew.alloc (.cells #[.bool (!bv)] 4))
              refine hK.out _ _ s1 (fun hH6 => ?_)
              clear hK K
              try simp only [Act.put, List.getElem_toArray, List.getElem_cons_zero, List.getElem_cons_succ, List.setIfInBounds_toArray, List.set_cons_zero, List.set_cons_succ]
              refine wpAnyH_ready (rs := [9]) (by kernel_rfl) (by simp) (AllReadyH.cons rfl (fun K hK => ?_) AllReadyH.nil)
              rw [if_pos (by rfl)]
              refine wp_append1g (w := wr.drew) (.tmp 62) (.tmp 69) _ rfl 4 i2 _ Try.underlying37 hi2 hx0 hx1 (by omega) rfl (g + 1) (.slice AT TV.length cT) _ (.bool (!bv)) rfl rfl rfl HTK.out (by have := HTL.out; omega) (by show g + 1 ≤ wr.heap.size; omega) ?_
              intro v2 w8 hown2 hgr2 hloc2
              obtain ⟨Av2, nv2, cv2, ev2⟩ : ∃ A n c, v2 = .slice A n c := by obtain ⟨A', c', e, _⟩ := own_shape hown2; exact ⟨A', _, c', e⟩
              subst ev2
              have hTo : ∀ k, (Value.slice AT TV.length cT).ownBlock = some k → g + 1 ≤ k := fun k hk => own_lt HTK.out hk
              have s2 : w8.cell? ⟨w.heap.size, 2, none⟩ = some (.slice (some ⟨b2, o2, none⟩) m c2) ∧ w8.cell? ⟨b2, o2 + i, none⟩ = some (.bool bv) := ⟨(World.cell?_of_block (a := ⟨w.heap.size, 2, none⟩) (hgr2.block (w.heap.size) (show w.heap.size < wr.heap.size by omega) (fun e => by have := hTo _ e.symm; omega))).trans s0.1, (World.cell?_of_block (a := ⟨b2, o2 + i, none⟩) (hgr2.block b2 (show b2 < wr.heap.size by omega) (fun e => by have := hTo _ e.symm; omega))).trans s0.2⟩
              have hR6 := Lib.hid (HTD.out.addT (b := !bv) hgr2 (by rw [List.map_append, HTV.out]; exact hown2))
              have hO6 : w8.heap[g]? = some (.cells #[S M.sg, .slice A m c, .slice AT TV.length cT] 39 (0, 0)) := (hgr2.block (g) (show g < wr.heap.size by omega) (fun e => by have := hTo _ e.symm; omega)).trans HTD.out.out
              obtain ⟨_, _, g2, _, _, g5⟩ := three_atL hO6
              try simp only [Act.put, List.getElem_toArray, List.getElem_cons_zero, List.getElem_cons_succ, List.setIfInBounds_toArray, List.set_cons_zero, List.set_cons_succ]
              refine hK.out _ _ s2 (fun hH7 => ?_)
              clear hK K
              try simp only [Act.put, List.getElem_toArray, List.getElem_cons_zero, List.getElem_cons_succ, List.setIfInBounds_toArray, List.set_cons_zero, List.set_cons_succ]
              refine wpAnyH_take (i := 10) (v := ?_) rfl (by kernel_rfl) (by kernel_rfl) (by kernel_rfl) (fun _ _ _ h => h) (Or.inl ⟨by rfl, ?_⟩) hH7 ?_
              rotate_left
              · intro W hSw; (try dsimp only at hSw); go_simp; try with_reducible rfl
              try simp only [Act.put, List.getElem_toArray, List.getElem_cons_zero, List.getElem_cons_succ, List.setIfInBounds_toArray, List.set_cons_zero, List.set_cons_succ]
              refine wpAnyH_ready (rs := [11]) (by kernel_rfl) (by simp) (AllReadyH.cons rfl (fun K hK => ?_) AllReadyH.nil)
              go_simp
              change K _ (w8.setCell ⟨g, 2, none⟩ (.slice Av2 nv2 cv2))
              have s3 : (w8.setCell ⟨g, 2, none⟩ (.slice Av2 nv2 cv2)).cell? ⟨w.heap.size, 2, none⟩ = some (.slice (some ⟨b2, o2, none⟩) m c2) ∧ (w8.setCell ⟨g, 2, none⟩ (.slice Av2 nv2 cv2)).cell? ⟨b2, o2 + i, none⟩ = some (.bool bv) := ⟨(World.cell?_setCell_far w8 ⟨g, 2, none⟩ ⟨w.heap.size, 2, none⟩ _ (by show g ≠ w.heap.size; omega)).trans s2.1, (World.cell?_setCell_far w8 ⟨g, 2, none⟩ ⟨b2, o2 + i, none⟩ _ (by show g ≠ b2; omega)).trans s2.2⟩
              refine hK.out _ _ s3 (fun hH8 => ?_)
              clear hK K
              try simp only [Act.put, List.getElem_toArray, List.getElem_cons_zero, List.getElem_cons_succ, List.setIfInBounds_toArray, List.set_cons_zero, List.set_cons_succ]
              refine wpAnyH_done (by kernel_rfl) ?_ _
              generalize w8.setCell ⟨g, 2, none⟩ (.slice Av2 nv2 cv2) = w9 at *
              clear s0 s1 s2 s3 d2e d2e2 hO6 g2 g5 hown2 hgr2 hloc2 hTo a2 ct t2 HTk HTK
              go_wp2_with fail
              go_roundg f
              case measure => omega
              case rel => exact ⟨i + 1, _, by omega, by simp, by rw [HTS.out]; exact hR6⟩
          · obtain rfl : i = m := by omega
            have hTE : (M.tk.map fun b => !b).take i = M.flip.tk := List.take_of_length_le (by rw [List.length_map, HTK0.out]; exact Nat.le_refl _)
            rw [hTE] at HTk
            have hfl : M.flip.tk.length = i := by show (M.tk.map _).length = i; rw [List.length_map]; exact HTK0.out
            have HO0 := Lib.hid HTk.out.out
            have htk := HTk.out.tks
            rw [show (M.flip.tk.map Value.bool).length = i by rw [List.length_map]; exact hfl] at htk
            obtain ⟨AT, cT, hvT, _⟩ := own_shape htk
            subst hvT
            have htb : Bls wr wr.heap.size AT i M.flip.tk := bls_of_own (D := g + 1) (c := cT) (by rw [show (M.flip.tk.map Value.bool).length = i by rw [List.length_map]; exact hfl]; exact htk) hfl.symm
            have hmf : MacW wr wr.heap.size A i AT i M.flip := ⟨HMr.out.rows.more (by have := HBB.out; omega), htb⟩
            obtain ⟨f1, f2⟩ := flip_takes HO.out H24.out HLK.out
            have HT2 : Hid (Calls Try.prog 13 #[mcv M.sg A i c AT i cT, S (a ++ b)] wr fun e w' => e = .returned (.tuple #[.bool (!bo M.tk k), .nilIface]) ∧ Below wr.heap.size wr w') := Lib.hid (by
              have h := takes_any M.flip A AT i c i cT wr.heap.size (a ++ b) wr hmf (Nat.le_refl _)
              rw [f1, f2] at h
              exact h)
            obtain ⟨t0, t1, t2, _, _, _⟩ := three_atL HO0.out
            have HBW := Lib.hid (HB6.out.trans (HTk.out.low.mono (by rw [← HGG.out]; exact HB6.out.size)))
            have HCA := Lib.hid a2
            have hki : k < i := by have := HM6.out.n_eq; omega
            have hci := HMr.out.tks.at_ hki
            have hv := HV0.out
            subst hv
            clear hTE htk htb hmf f1 f2 HTk HV0
            obtain ⟨b2, o2, hA2, hb2, ct⟩ := hci
            subst hA2
            have hbw2 : b2 < wr.heap.size := by have := HBB.out; omega
            have hgw2 : w.heap.size < wr.heap.size := by omega
            have HCT := Lib.hid ct
            generalize bo M.tk k = bv at *
            clear ct
            go_wp2_with fail
            refine HT2.out.mono ?_
            rintro e w8 ⟨rfl, hb8⟩
            have HB8 := Lib.hid (HBW.out.trans (hb8.mono HBW.out.size))
            have e1 := (hb8.cell (p := ⟨w.heap.size, 2, none⟩) hgw2).trans HCA.out
            have e2 := (hb8.cell (p := ⟨b2, o2 + k, none⟩) hbw2).trans HCT.out
            have p1 : (k : Int) < (i : Int) := by omega
            clear hb8
            cases bv
            all_goals
              go_wp2_with fail
              go_ret
              exact ⟨rfl, HB8.out⟩
  · have HV0 := takesV_no hE
    have HE := err_ne hE
    rw [HV0, HE] at HT
    clear HV0 HE hE
    go_wp2_with fail
    refine HT.out.mono ?_
    rintro e w3 ⟨rfl, hb3⟩
    have HB3 := Lib.hid (HB2.out.trans (hb3.mono HB2.out.size))
    clear hb3
    go_wp2_with fail
    go_ret
    exact ⟨rfl, HB3.out⟩
end Go.Proofs.Ytchhbnnpannnhaa
