/- The walk over roman.Write, for the law TopSums. Condition: the variable roman.parts reads as the program's text lays it. -/
import Derived.Test.YtehecbfgdpaemaaDoorYardL
import Derived.Test.YtehecbfgdpaemaaDoorBuildS
import Derived.Test.YtehecbfgdpaemaaDoorRomanP
import Derived.Laws.Rows
namespace Go.Proofs.YtehecbfgdpaemaaDoor
open Go.RowKit RomanM
attribute [local go_sem] byte_at str_app

/-- The variable's cells. -/
def pcs : Array Value := #[.int .i64 1000, S [77], .int .i64 900, S [67, 77], .int .i64 500, S [68], .int .i64 400, S [67, 68], .int .i64 100, S [67], .int .i64 90, S [88, 67], .int .i64 50, S [76], .int .i64 40, S [88, 76], .int .i64 10, S [88], .int .i64 9, S [73, 88], .int .i64 5, S [86], .int .i64 4, S [73, 86], .int .i64 1, S [73]]
theorem pcs_size : pcs.size = 26 := rfl
theorem ix_at (k : Nat) (w : World) (h : k < 13) : (Instr.index 56 (.agg pcs) (.int .i64 (k : Int))).run Tryd.prog w = .ok (.agg #[.int .i64 (pn k), S (ps k)]) w := by
  obtain rfl | rfl | rfl | rfl | rfl | rfl | rfl | rfl | rfl | rfl | rfl | rfl | rfl : k = 0 ∨ k = 1 ∨ k = 2 ∨ k = 3 ∨ k = 4 ∨ k = 5 ∨ k = 6 ∨ k = 7 ∨ k = 8 ∨ k = 9 ∨ k = 10 ∨ k = 11 ∨ k = 12 := by omega
  all_goals kernel_rfl
/-- The condition: the variable reads so. -/
def PG (w : World) : Prop := ∃ t fr, w.heap[1]? = some (.cells pcs t fr)
theorem PG.lt {w : World} (h : PG w) : 1 < w.heap.size := by
  obtain ⟨t, fr, h⟩ := h
  exact (Array.getElem?_eq_some_iff.1 h).1
theorem PG.below {w w' : World} {B : Nat} (h : PG w) (hb : Below B w w') (hB : w.heap.size ≤ B) : PG w' := by
  have hl := h.lt
  obtain ⟨t, fr, h⟩ := h
  exact ⟨t, fr, (hb.block _ (by omega)).trans h⟩

set_option maxHeartbeats 400000 in
theorem within_any (n lo hi : Int) (w : World) :
    Calls Tryd.prog 26 #[.int .i64 n, .int .i64 lo, .int .i64 hi] w fun e w' => e = .returned (.bool (decide (lo ≤ n ∧ n ≤ hi))) ∧ w = w' := by
  by_cases h1 : lo ≤ n
  · by_cases h2 : n ≤ hi
    all_goals
      go_enter Tryd.func26, Tryd.ntmps26
      go_wp2
      go_ret
      exact ⟨by simp [h1, h2], rfl⟩
  · go_enter Tryd.func26, Tryd.ntmps26
    go_wp2
    go_ret
    exact ⟨ret_bool (by simp [show ¬ lo ≤ n from by omega]), rfl⟩
set_option maxRecDepth 100000 in
set_option maxHeartbeats 2000000 in
theorem write_no (n : Int) (w : World) (h : ¬ (1 ≤ n ∧ n ≤ 3999)) :
    Calls Tryd.prog 13 #[.int .i64 n] w fun e w' => e = .returned (.tuple #[S [], .iface 53 (.int .i64 1)]) ∧ w = w' := by
  have HD := Lib.hid (show decide (1 ≤ n ∧ n ≤ 3999) = false from decide_eq_false h)
  clear h
  go_enter Tryd.func13, Tryd.ntmps13
  go_wp2_with fail
  refine (within_any _ _ _ _).mono ?_
  rintro e w' ⟨rfl, rfl⟩
  rw [HD.out]
  go_wp2_with fail
  go_ret2
  exact ⟨rfl, rfl⟩

set_option maxRecDepth 100000 in
set_option maxHeartbeats 2000000 in
theorem write_ok (n0 : Int) (w : World) (h : 1 ≤ n0 ∧ n0 ≤ 3999) (hg : PG w) :
    Calls Tryd.prog 13 #[.int .i64 n0] w fun e w' => e = .returned (.tuple #[S (wr n0), .nilIface]) ∧ Below w.heap.size w w' := by
  have HD := Lib.hid (show decide (1 ≤ n0 ∧ n0 ≤ 3999) = true from decide_eq_true h)
  obtain ⟨T, hT0⟩ : ∃ T, wr n0 = T := ⟨_, rfl⟩
  rw [hT0]
  have HT0 := Lib.hid (show wOut 13 0 n0 [] = T from hT0); clear hT0
  have hlt0 := hg.lt
  obtain ⟨tg, fr, hgc⟩ := hg
  have HG0 := Lib.hid hgc; clear hgc
  go_enter Tryd.func13, Tryd.ntmps13
  go_wp2_with fail
  refine (within_any _ _ _ _).mono ?_
  rintro e w' ⟨rfl, rfl⟩
  rw [HD.out]
  go_wp2_with (refine wpList_load_row rfl 56 _ rfl 1 rfl tg pcs fr _ ?_ Tryd.underlying56 rfl (by kernel_rfl) ?_)
  · exact (Lib.alloc_old w _ _ hlt0).trans HG0.out
  go_loopg [0, 12] 13 (fun f nv kv wr => ∃ k : Nat, ∃ n : Int, ∃ acc : List UInt8, k + f = 13 ∧ kv = .int .i64 k ∧ nv = .int .i64 n ∧ 0 ≤ n ∧ n ≤ 3999 ∧ acc.length + 2 * n ≤ 8000 ∧
      Lib.IsBuilder 45 5 w.heap.size w.heap.size (Lib.byteCells acc) wr ∧ Below w.heap.size w wr ∧ wOut f k n acc = T)
  case atStart => exact ⟨0, n0, [], by omega, rfl, rfl, by omega, by omega, by simp; omega, Lib.fresh_isBuilder _ _ w, (Below.refl _ _).alloc (Nat.le_refl _) _, HT0.out⟩
  case round =>
    obtain ⟨k, n, acc, hkf, rfl, rfl, h0, h1, hac, hisb, hB, hT⟩ := hrel
    by_cases hlt : k < 13
    · obtain ⟨f, rfl⟩ : ∃ f, gk = f + 1 := ⟨gk - 1, by omega⟩
      have HISB := Lib.hid hisb; clear hisb
      have HB := Lib.hid hB; clear hB
      have HT := Lib.hid hT; clear hT
      have hix := ix_at k wr hlt
      have hk13 : decide ((k : Int) < 13) = true := by simp; omega
      obtain ⟨p1, p2⟩ := pn_bd k
      obtain ⟨s1, s2⟩ := ps_bd k
      obtain ⟨X, hX⟩ : ∃ X, wIn 4000 (pn k) (ps k) n acc = X := ⟨_, rfl⟩
      have hTX : wOut f (k + 1) X.1 X.2 = T := by rw [← hX]; exact HT.out
      have HTX := Lib.hid hTX
      have HX := Lib.hid hX
      clear hTX hX HT
      have hisb1 : Lib.IsBuilder 45 5 w.heap.size w.heap.size (Lib.byteCells acc) (wr.alloc (.cells #[.int .i64 (pn k), S (ps k)] 55)) :=
        isb_below HISB.out ((Below.refl _ _).alloc (Nat.le_refl _) _)
      have hB1 : Below w.heap.size w (wr.alloc (.cells #[.int .i64 (pn k), S (ps k)] 55)) := HB.out.alloc HB.out.size _
      have hbk1 : (wr.alloc (.cells #[.int .i64 (pn k), S (ps k)] 55)).heap[wr.heap.size]? = some (.cells #[.int .i64 (pn k), S (ps k)] 55) := heap_alloc_new _ _
      have HISB1 := Lib.hid hisb1
      have HB1 := Lib.hid hB1
      have HBK1 := Lib.hid hbk1
      clear hisb1 hB1 hbk1
      go_wp2_with fail
      generalize wr.alloc (.cells #[.int .i64 (pn k), S (ps k)] 55) = w1 at *
      generalize wr.heap.size = g at *
      generalize hp : pn k = p at *
      generalize hs : ps k = s at *
      clear hix
      go_loopg [0] 4000 (fun q nv wi => ∃ n : Int, ∃ acc : List UInt8, nv = .int .i64 n ∧ 0 ≤ n ∧ n < q ∧ n ≤ 3999 ∧ acc.length + 2 * n ≤ 8000 ∧
          Lib.IsBuilder 45 5 w.heap.size w.heap.size (Lib.byteCells acc) wi ∧ Below w.heap.size w wi ∧ wi.heap[g]? = some (.cells #[.int .i64 p, S s] 55) ∧ wIn q p s n acc = X)
      case atStart => exact ⟨n, acc, rfl, h0, by omega, h1, hac, HISB1.out, HB1.out, HBK1.out, HX.out⟩
      case round =>
        clear h0 h1 hac HX HISB1 HB1 HBK1 HB HISB
        obtain ⟨n, acc, rfl, h0, hq, h1, hac, hisb, hB, hbk, hX⟩ := hrel
        have c0 := Lib.cell_of_heap hbk 0
        have c1 := Lib.cell_of_heap hbk 1
        simp at c0 c1
        have HISB := Lib.hid hisb; clear hisb
        have HB := Lib.hid hB; clear hB
        have HBK := Lib.hid hbk; clear hbk
        by_cases hpn : p ≤ n
        · obtain ⟨q, rfl⟩ : ∃ q, gk = q + 1 := ⟨gk - 1, by omega⟩
          have HX := Lib.hid (wIn_yes hpn hX); clear hX
          go_wp2_with fail
          refine (writeString_any w.heap.size w.heap.size acc s _ HISB.out (by omega) HB.out.size).mono ?_
          rintro e w2 ⟨rfl, hisb2, hb2, hk2⟩
          have hbk2 := hk2 _ _ _ _ HBK.out (by decide) (by decide)
          have d0 := Lib.cell_of_heap hbk2 0
          have d1 := Lib.cell_of_heap hbk2 1
          simp at d0 d1
          have HISB2 := Lib.hid hisb2; clear hisb2
          have HB2 := Lib.hid (HB.out.trans hb2); clear hb2
          have HBK2 := Lib.hid hbk2; clear hbk2 hk2
          go_wp2_with fail
          go_roundg q
          case measure => omega
          case rel => exact ⟨n - p, acc ++ s, rfl, by omega, by omega, by omega, by simp; omega, HISB2.out, HB2.out, HBK2.out, HX.out⟩
        · have hd : decide (p ≤ n) = false := decide_eq_false hpn
          have HX := Lib.hid (wIn_no hpn hX); clear hX
          go_wp2_with fail
          go_roundg f
          case measure => omega
          case rel => exact ⟨k + 1, n, acc, by omega, by simp, rfl, h0, h1, hac, HISB.out, HB.out, by have := HTX.out; rw [HX.out] at this; exact this⟩
    · obtain rfl : gk = 0 := by omega
      have hTT : acc = T := hT
      subst hTT
      have HISB := Lib.hid hisb; clear hisb
      have HB := Lib.hid hB; clear hB
      clear hT
      go_wp2_with fail
      refine (Tryd.Builder_String_any w.heap.size w.heap.size acc wr HISB.out HB.out.size).mono ?_
      rintro e w2 ⟨rfl, hb2⟩
      go_wp2_with fail
      go_ret2
      exact ⟨rfl, HB.out.trans hb2⟩
end Go.Proofs.YtehecbfgdpaemaaDoor
