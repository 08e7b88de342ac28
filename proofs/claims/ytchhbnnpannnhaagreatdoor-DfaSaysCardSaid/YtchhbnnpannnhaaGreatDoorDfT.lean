/- The document's Takes at a machine that is right, and dfa.Of at a pattern that can't be read. No condition. -/
import Derived.Test.YtchhbnnpannnhaaGreatDoorDfG
import Derived.Test.YtchhbnnpannnhaaGreatDoorMg15
import Derived.Test.YtchhbnnpannnhaaGreatDoorLsTk
namespace Go.Proofs.YtchhbnnpannnhaaGreatDoor
open Go.RowKit Go.Lib IntWalk Go.Maps
set_option linter.unusedSimpArgs false
set_option linter.unusedVariables false
attribute [local go_sem] byte_at str_app
attribute [local go_sem ↓] Go.wp_at_zero Go.wp_at_succ

set_option maxRecDepth 100000 in
set_option maxHeartbeats 4000000 in
theorem takesR_any (M : Mc) (hO : M.Ok) (A A2 : Option Addr) (n c m c2 B : Nat) (s : List UInt8) (w : World) (hM : MacW w B A n A2 m M) (hB : B ≤ w.heap.size) (hs : s.length ≤ 100000) :
    Calls Tryz.prog 8 #[mcv M.sg A n c A2 m c2, S s] w fun e w' => e = .returned (.bool (M.takesB s)) ∧ Below w.heap.size w w' := by
  obtain ⟨c0, c1, c2'⟩ := mac_cells w M.sg A n c A2 m c2 25
  have HR1 := Lib.hid (heap_alloc_new w (.cells #[S M.sg, .slice A n c, .slice A2 m c2] 25))
  generalize hw1 : w.alloc (.cells #[S M.sg, .slice A n c, .slice A2 m c2] 25) = w1 at *
  have hb1 : Below w.heap.size w w1 := by rw [← hw1]; exact (Below.refl _ w).alloc (Nat.le_refl _) _
  have HB1 := Lib.hid hb1
  have HM1 := Lib.hid (hM.below (hb1.mono hB))
  have HBB := Lib.hid hB
  have HO := Lib.hid hO
  have HL : Hid (Calls Tryz.prog 18 #[mcv M.sg A n c A2 m c2, .int .i64 0, S s] w1 fun e w' => e = .returned (.int .i64 (ledV M 0 s)) ∧ Below w1.heap.size w1 w') := Lib.hid (leads_any M hO A A2 n c m c2 B 0 s w1 HM1.out (Nat.le_trans hB hb1.size) hO.pos hs)
  clear hb1 hM hB hO
  cases hl : M.leadB 0 s with
  | none =>
    have HV : Hid (M.takesB s = false) := Lib.hid (by unfold Mc.takesB; rw [hl])
    have hv : ledV M 0 s = -1 := by unfold ledV; rw [hl]
    rw [hv] at HL
    clear hv hl
    go_enter Tryz.func8, Tryz.ntmps8
    go_wp2_with fail
    clear hw1 c0 c1 c2'
    refine HL.out.mono ?_
    rintro e w2 ⟨rfl, hb2⟩
    have HB2 := Lib.hid (HB1.out.trans (hb2.mono HB1.out.size))
    have hr2 := (hb2.block w.heap.size (Array.getElem?_eq_some_iff.1 HR1.out).1).trans HR1.out
    obtain ⟨d0, d1, d2, _, _, _⟩ := three_atL hr2
    clear hb2 hr2 HL
    go_wp2_with fail
    go_ret
    exact ⟨ret_bool HV.out.symm, HB2.out⟩
  | some j =>
    have HV : Hid (M.takesB s = bo M.tk j) := Lib.hid (by unfold Mc.takesB; rw [hl])
    have hv : ledV M 0 s = (j : Int) := by unfold ledV; rw [hl]
    rw [hv] at HL
    have hj := HO.out.leadB_lt HO.out.pos hl
    clear hv hl
    go_enter Tryz.func8, Tryz.ntmps8
    go_wp2_with fail
    clear hw1 c0 c1 c2'
    refine HL.out.mono ?_
    rintro e w2 ⟨rfl, hb2⟩
    have HB2 := Lib.hid (HB1.out.trans (hb2.mono HB1.out.size))
    have hr2 := (hb2.block w.heap.size (Array.getElem?_eq_some_iff.1 HR1.out).1).trans HR1.out
    obtain ⟨d0, d1, d2, _, _, _⟩ := three_atL hr2
    have hM2 := HM1.out.below (hb2.mono (Nat.le_trans HBB.out HB1.out.size))
    have hmn := hM2.m_eq
    have hjm : j < m := by rw [← hmn, HO.out.tak]; exact hj
    obtain ⟨b, o, hA, _, ct⟩ := hM2.tks.at_ (k := j) hjm
    subst hA
    have p1 : (0 : Int) ≤ (j : Int) := by omega
    have p2 : (j : Int) < (m : Int) := by omega
    clear hb2 hr2 HL hM2 hmn hj
    generalize bo M.tk j = bb at *
    go_wp2_with fail
    go_ret
    exact ⟨ret_bool HV.out.symm, HB2.out⟩

set_option maxRecDepth 100000 in
set_option maxHeartbeats 4000000 in
theorem dfaOf_err (s : List UInt8) (w : World) (h9 : s.length ≤ 9223372036854775807) (h0 : parsE s ≠ 0) :
    Calls Tryz.prog 11 #[S s] w fun e w' => e = .returned (.tuple #[mcv [] none 0 0 none 0 0, errV (parsE s)]) ∧ Below w.heap.size w w' := by
  have hS : Calls Tryz.prog 27 #[S s] (w.alloc (.cells #[S [], .slice none 0 0, .slice none 0 0] 25)) fun e w' => e = .returned (.tuple #[S [], .int .i64 0, errV (parsE s)]) ∧ Below (w.alloc (.cells #[S [], .slice none 0 0, .slice none 0 0] 25)).heap.size (w.alloc (.cells #[S [], .slice none 0 0, .slice none 0 0] 25)) w' := (rsigns_any s _ h9).mono fun e w' h => by
    refine ⟨?_, h.2⟩
    rcases h.1 with ⟨_, e1⟩ | ⟨_, e0, _⟩
    · exact e1
    · exact absurd e0 h0
  have HER := Lib.hid (err_ne h0)
  rw [HER.out] at hS
  have HS := Lib.hid hS
  have HB1 := Lib.hid ((Below.refl w.heap.size w).alloc (Nat.le_refl _) (.cells #[S [], .slice none 0 0, .slice none 0 0] 25))
  have HR1 : Hid ((w.alloc (.cells #[S [], .slice none 0 0, .slice none 0 0] 25)).heap[w.heap.size]? = some (.cells #[S [], .slice none 0 0, .slice none 0 0] 25 (0, 0))) := Lib.hid (heap_alloc_new w _)
  have HX := Lib.hid h0
  clear hS h0
  go_enter Tryz.func11, Tryz.ntmps11
  go_wp2_with fail
  generalize w.alloc (.cells #[S [], .slice none 0 0, .slice none 0 0] 25) = w1 at *
  refine HS.out.mono ?_
  rintro e w3 ⟨rfl, hb3⟩
  have HR3 := Lib.hid ((hb3.block w.heap.size (Array.getElem?_eq_some_iff.1 HR1.out).1).trans HR1.out)
  have HB3 := Lib.hid (HB1.out.trans (hb3.mono HB1.out.size))
  obtain ⟨d0, d1, d2, f0, f1, f2⟩ := three_atL HR3.out
  clear hb3 HS
  go_wp2_with fail
  refine bodyPost_ret (res_cell_tmp rfl _ _ w.heap.size 25 _ (0, 0) _ rfl (set3L HR3.out) Tryz.underlying25 rfl (by kernel_rfl)) rfl ?_
  refine ⟨by rw [HER.out]; rfl, ?_⟩
  exact ((HB3.out.setCell (p := ⟨w.heap.size, 0, none⟩) (Nat.le_refl _) _).setCell (p := ⟨w.heap.size, 1, none⟩) (Nat.le_refl _) _).setCell (p := ⟨w.heap.size, 2, none⟩) (Nat.le_refl _) _
end Go.Proofs.YtchhbnnpannnhaaGreatDoor
