/- The laws' closed fact on package dfa. No condition. -/
import Derived.Test.YtchhbnnpannnhaaDfG
import Derived.Test.YtchhbnnpannnhaaLsTk
import Derived.Test.YtchhbnnpannnhaaNfBl
namespace Go.Proofs.Ytchhbnnpannnhaa
open Go.RowKit IntWalk Go.Maps
set_option linter.unusedSimpArgs false
set_option linter.unusedVariables false
attribute [local go_sem] byte_at str_app
attribute [local go_sem ↓] Go.wp_at_zero Go.wp_at_succ

def tA : Pt := .seq (.sgn 97 0) (.str (.sgn 98 1))
theorem parA : par [97, 98, 42] = some tA := by rfl
def mA : Mc := ⟨[97, 98], [[1, 2], [2, 3], [2, 2], [2, 3]], [false, true, false, true]⟩
theorem dfA : dfM tA (sgs [97, 98, 42]) = mA := by
  have e : sgs [97, 98, 42] = [97, 98] := by rfl
  have h : (dfb tA [97, 98] 4).met.length ≤ 4 := by decide +kernel
  have hn : (leaves tA).length ≤ 12 := by decide
  have he := dfb_end hn h
  have h1 : (dfb tA [97, 98] 4).rows = [[1, 2], [2, 3], [2, 2], [2, 3]] := by decide +kernel
  have h2 : (dfb tA [97, 98] 4).tks = [false, true, false, true] := by decide +kernel
  rw [e]
  unfold dfM
  rw [← he, h1, h2]
  rfl
theorem rows4 (w : World) (g1 g2 g3 g4 g : Nat) (a1 b1 a2 b2 a3 b3 a4 b4 : Int) (h1 : w.heap[g1]? = some (.cells #[.int .i64 a1, .int .i64 b1] 3)) (h2 : w.heap[g2]? = some (.cells #[.int .i64 a2, .int .i64 b2] 3)) (h3 : w.heap[g3]? = some (.cells #[.int .i64 a3, .int .i64 b3] 3)) (h4 : w.heap[g4]? = some (.cells #[.int .i64 a4, .int .i64 b4] 3))
    (h : w.heap[g]? = some (.cells #[.slice (some ⟨g1, 0, none⟩) 2 2, .slice (some ⟨g2, 0, none⟩) 2 2, .slice (some ⟨g3, 0, none⟩) 2 2, .slice (some ⟨g4, 0, none⟩) 2 2] 23)) : Rws w w.heap.size (some ⟨g, 0, none⟩) 4 [[a1, b1], [a2, b2], [a3, b3], [a4, b4]] := by
  have two : ∀ (k : Nat) (a b : Int), w.heap[k]? = some (.cells #[.int .i64 a, .int .i64 b] 3) → Ints w w.heap.size (some ⟨k, 0, none⟩) 2 [a, b] := fun k a b hk =>
    ⟨rfl, fun _ => ⟨k, 0, rfl, (Array.getElem?_eq_some_iff.1 hk).1, fun j hj => by
      rcases (by omega : j = 0 ∨ j = 1) with rfl | rfl
      · rw [cell_of_row w k _ _ _ (0, 0) hk]; rfl
      · rw [cell_of_row w k _ _ _ (0, 0) hk]; rfl⟩⟩
  refine ⟨rfl, fun _ => ⟨g, 0, rfl, (Array.getElem?_eq_some_iff.1 h).1, fun j hj => ?_⟩⟩
  rcases (by omega : j = 0 ∨ j = 1 ∨ j = 2 ∨ j = 3) with rfl | rfl | rfl | rfl
  · exact ⟨_, _, _, by rw [cell_of_row w g _ _ _ (0, 0) h]; rfl, two g1 a1 b1 h1⟩
  · exact ⟨_, _, _, by rw [cell_of_row w g _ _ _ (0, 0) h]; rfl, two g2 a2 b2 h2⟩
  · exact ⟨_, _, _, by rw [cell_of_row w g _ _ _ (0, 0) h]; rfl, two g3 a3 b3 h3⟩
  · exact ⟨_, _, _, by rw [cell_of_row w g _ _ _ (0, 0) h]; rfl, two g4 a4 b4 h4⟩
theorem alloc5 (w : World) (o1 o2 o3 o4 o5 : Obj) : ((((((w.alloc o1).alloc o2).alloc o3).alloc o4).alloc o5).heap[w.heap.size]? = some o1) ∧ ((((((w.alloc o1).alloc o2).alloc o3).alloc o4).alloc o5).heap[w.heap.size + 1]? = some o2) ∧ ((((((w.alloc o1).alloc o2).alloc o3).alloc o4).alloc o5).heap[w.heap.size + 1 + 1]? = some o3) ∧
    ((((((w.alloc o1).alloc o2).alloc o3).alloc o4).alloc o5).heap[w.heap.size + 1 + 1 + 1]? = some o4) ∧ ((((((w.alloc o1).alloc o2).alloc o3).alloc o4).alloc o5).heap[w.heap.size + 1 + 1 + 1 + 1]? = some o5) ∧ Below w.heap.size w (((((w.alloc o1).alloc o2).alloc o3).alloc o4).alloc o5) := by
  have e1 := heap_alloc_new w o1
  have e2 := heap_alloc_new (w.alloc o1) o2
  have e3 := heap_alloc_new ((w.alloc o1).alloc o2) o3
  have e4 := heap_alloc_new (((w.alloc o1).alloc o2).alloc o3) o4
  have e5 := heap_alloc_new ((((w.alloc o1).alloc o2).alloc o3).alloc o4) o5
  simp only [World.size_alloc] at e2 e3 e4 e5
  have up : ∀ (W : World) (o p : Obj) (g : Nat), g < W.heap.size → W.heap[g]? = some p → (W.alloc o).heap[g]? = some p := fun W o p g hg h => (Below.heap_alloc W o g hg).trans h
  have l : ∀ (W : World) (g : Nat) (p : Obj), W.heap[g]? = some p → g < W.heap.size := fun W g p h => (Array.getElem?_eq_some_iff.1 h).1
  refine ⟨?_, ?_, ?_, ?_, e5, ?_⟩
  · have f2 := up _ o2 _ _ (l _ _ _ e1) e1
    have f3 := up _ o3 _ _ (l _ _ _ f2) f2
    have f4 := up _ o4 _ _ (l _ _ _ f3) f3
    exact up _ o5 _ _ (l _ _ _ f4) f4
  · have f3 := up _ o3 _ _ (l _ _ _ e2) e2
    have f4 := up _ o4 _ _ (l _ _ _ f3) f3
    exact up _ o5 _ _ (l _ _ _ f4) f4
  · have f4 := up _ o4 _ _ (l _ _ _ e3) e3
    exact up _ o5 _ _ (l _ _ _ f4) f4
  · exact up _ o5 _ _ (l _ _ _ e4) e4
  · exact (((((Below.refl _ w).alloc (Nat.le_refl _) o1).alloc (by simp only [World.size_alloc]; omega) o2).alloc (by simp only [World.size_alloc]; omega) o3).alloc (by simp only [World.size_alloc]; omega) o4).alloc (by simp only [World.size_alloc]; omega) o5
theorem bls4 (w : World) (a b c d : Bool) : Bls (w.alloc (.cells #[.bool a, .bool b, .bool c, .bool d] 4)) (w.alloc (.cells #[.bool a, .bool b, .bool c, .bool d] 4)).heap.size (some ⟨w.heap.size, 0, none⟩) 4 [a, b, c, d] := by
  have h := heap_alloc_new w (.cells #[.bool a, .bool b, .bool c, .bool d] 4)
  refine ⟨rfl, fun _ => ⟨w.heap.size, 0, rfl, by simp, fun j hj => ?_⟩⟩
  rcases (by omega : j = 0 ∨ j = 1 ∨ j = 2 ∨ j = 3) with rfl | rfl | rfl | rfl
  all_goals rw [cell_of_row _ w.heap.size _ _ _ (0, 0) h]; rfl
theorem takesA : takesV mA [97, 98, 98] = true ∧ takesE mA [97, 98, 98] = 0 := by
  constructor
  · decide +kernel
  · decide +kernel
set_option maxRecDepth 100000 in
set_option maxHeartbeats 4000000 in
theorem dfaFact_any (w : World) : Calls Try.prog 12 #[] w fun e w' => e = .returned (.bool true) ∧ Below w.heap.size w w' := by
  have HO : Hid (Calls Try.prog 26 #[.string ⟨#[97, 98, 42]⟩] w fun e w' => (∃ (A1 A2 : Option Addr) (c1 c2 : Nat), e = .returned (.tuple #[.agg #[.string ⟨#[97, 98]⟩, .slice A1 4 c1, .slice A2 4 c2], .nilIface]) ∧ MacW w' w'.heap.size A1 4 A2 4 mA) ∧ Below w.heap.size w w') := Lib.hid (by
    have h := dfaOf_ok [97, 98, 42] tA w (by decide) (parsE_of (by decide) parA) parA
    rw [dfA] at h
    refine h.mono ?_
    rintro e w' ⟨⟨A1, k1, A2, k2, rfl, hM⟩, hb⟩
    exact ⟨⟨A1, A2, k1, k2, rfl, hM⟩, hb⟩)
  go_enter Try.func12, Try.ntmps12
  go_wp2_with fail
  refine HO.out.mono ?_
  rintro e w1 ⟨⟨A1, A2, c1, c2, rfl, hM⟩, hb1⟩
  have HM := Lib.hid hM
  have HB1 := Lib.hid hb1
  have hba := (Below.refl w1.heap.size w1).alloc (Nat.le_refl _) (.cells #[.string ⟨#[97, 98]⟩, .slice A1 4 c1, .slice A2 4 c2] 39)
  have HB2 := Lib.hid (hb1.trans (hba.mono hb1.size))
  have HM2 := Lib.hid ((hM.below hba).more hba.size)
  have HR2 : Hid ((w1.alloc (.cells #[.string ⟨#[97, 98]⟩, .slice A1 4 c1, .slice A2 4 c2] 39)).heap[w1.heap.size]? = some (.cells #[.string ⟨#[97, 98]⟩, .slice A1 4 c1, .slice A2 4 c2] 39 (0, 0))) := Lib.hid (heap_alloc_new w1 _)
  clear hM hb1 hba HO HM HB1
  go_upto_region 2 with fail
  generalize w1.alloc (.cells #[.string ⟨#[97, 98]⟩, .slice A1 4 c1, .slice A2 4 c2] 39) = w2 at *
  obtain ⟨d0, d1, d2, _, _, _⟩ := three_atL HR2.out
  have HT : Hid (Calls Try.prog 13 #[.agg #[.string ⟨#[97, 98]⟩, .slice A1 4 c1, .slice A2 4 c2], .string ⟨#[97, 98, 98]⟩] w2 fun e w' => e = .returned (.tuple #[.bool true, .nilIface]) ∧ Below w2.heap.size w2 w') := Lib.hid (by
    have h := takes_any mA A1 A2 4 c1 4 c2 w2.heap.size [97, 98, 98] w2 HM2.out (Nat.le_refl _)
    rw [takesA.1, takesA.2] at h
    exact h)
  go_wp2_with fail
  refine HT.out.mono ?_
  rintro e w3 ⟨rfl, hb3⟩
  have HB3 := Lib.hid (HB2.out.trans (hb3.mono HB2.out.size))
  have HM3 := Lib.hid ((HM2.out.below hb3).more hb3.size)
  have HR3 := Lib.hid ((hb3.block w1.heap.size (Array.getElem?_eq_some_iff.1 HR2.out).1).trans HR2.out)
  clear hb3 HM2 HB2 HT HR2 d0 d1 d2
  obtain ⟨d0, d1, d2, _, _, _⟩ := three_atL HR3.out
  have hlt : w1.heap.size < w3.heap.size := (Array.getElem?_eq_some_iff.1 HR3.out).1
  go_upto_region 3 with fail
  go_wp2_with fail
  obtain ⟨e1, e2, e3, e4, e5, hb⟩ := alloc5 w3 (.cells #[.int .i64 1, .int .i64 2] 3) (.cells #[.int .i64 2, .int .i64 3] 3) (.cells #[.int .i64 2, .int .i64 2] 3) (.cells #[.int .i64 2, .int .i64 3] 3) (.cells #[.slice (some ⟨w3.heap.size, 0, none⟩) 2 2, .slice (some ⟨w3.heap.size + 1, 0, none⟩) 2 2, .slice (some ⟨w3.heap.size + 1 + 1, 0, none⟩) 2 2, .slice (some ⟨w3.heap.size + 1 + 1 + 1, 0, none⟩) 2 2] 23)
  have r4 := rows4 _ _ _ _ _ _ 1 2 2 3 2 2 2 3 e1 e2 e3 e4 e5
  have hm4 := (HM3.out.below hb).more hb.size
  have HC := Lib.hid (smR_any A1 (some ⟨w3.heap.size + 1 + 1 + 1 + 1, 0, none⟩) 4 4 c1 4 _ [[1, 2], [2, 3], [2, 2], [2, 3]] [[1, 2], [2, 3], [2, 2], [2, 3]] _ hm4.rows r4 (by omega) (fun i hi => by rcases (by omega : i = 0 ∨ i = 1 ∨ i = 2 ∨ i = 3) with rfl | rfl | rfl | rfl <;> decide))
  have HB4 := Lib.hid (HB3.out.trans (hb.mono HB3.out.size))
  have HM4 := Lib.hid hm4
  have HR4 := Lib.hid ((hb.block w1.heap.size hlt).trans HR3.out)
  clear e1 e2 e3 e4 e5 hb r4 hm4 HM3 HB3 HR3 d0 d1 d2
  refine HC.out.mono ?_
  rw [show decide (([[1, 2], [2, 3], [2, 2], [2, 3]] : List (List Int)) = [[1, 2], [2, 3], [2, 2], [2, 3]]) = true from rfl]
  clear HC
  generalize ((((w3.alloc (.cells #[.int .i64 1, .int .i64 2] 3)).alloc (.cells #[.int .i64 2, .int .i64 3] 3)).alloc (.cells #[.int .i64 2, .int .i64 2] 3)).alloc (.cells #[.int .i64 2, .int .i64 3] 3)).alloc (.cells #[.slice (some ⟨w3.heap.size, 0, none⟩) 2 2, .slice (some ⟨w3.heap.size + 1, 0, none⟩) 2 2, .slice (some ⟨w3.heap.size + 1 + 1, 0, none⟩) 2 2, .slice (some ⟨w3.heap.size + 1 + 1 + 1, 0, none⟩) 2 2] 23) = w4 at *
  rintro e w5 ⟨rfl, q, hq⟩
  have hb5 : Below w4.heap.size w4 w5 := by rw [hq]; exact below_drewN (Below.refl _ _) q
  have HB5 := Lib.hid (HB4.out.trans (hb5.mono HB4.out.size))
  have HM5 := Lib.hid ((HM4.out.below hb5).more hb5.size)
  have HR5 := Lib.hid ((hb5.block w1.heap.size (Array.getElem?_eq_some_iff.1 HR4.out).1).trans HR4.out)
  clear hq hb5 HM4 HB4 HR4
  obtain ⟨d0, d1, d2, _, _, _⟩ := three_atL HR5.out
  go_wp2_with fail
  have hba := (Below.refl w5.heap.size w5).alloc (Nat.le_refl _) (.cells #[.bool false, .bool true, .bool false, .bool true] 4)
  have HC := Lib.hid (smB_any A2 (some ⟨w5.heap.size, 0, none⟩) 4 4 c2 4 _ [false, true, false, true] [false, true, false, true] _ ((HM5.out.tks.below hba).more hba.size) (bls4 w5 false true false true) (by omega))
  have HB6 := Lib.hid (HB5.out.trans (hba.mono HB5.out.size))
  clear hba d0 d1 d2
  refine HC.out.mono ?_
  rw [show decide (([false, true, false, true] : List Bool) = [false, true, false, true]) = true from rfl]
  rintro e w7 ⟨rfl, q7, hq7⟩
  have HB7 : Hid (Below w.heap.size w w7) := Lib.hid (by rw [hq7]; exact below_drewN HB6.out q7)
  clear hq7
  go_wp2_with fail
  go_ret
  exact ⟨rfl, HB7.out⟩
end Go.Proofs.Ytchhbnnpannnhaa
