/- The walks over the laws LinesFew and LinesWider: they return true. -/
import Derived.Test.YtikkcjclhalhgaaLinesL
namespace Go.Proofs.Ytikkcjclhalhgaa
open Go.RowKit LinesM

theorem Ints.pre {w : World} {B n k : Nat} {A : Option Addr} {l : List Int} (h : Ints w B A n l) (hk : k ≤ n) : Ints w B A k (l.take k) := by
  refine ⟨by rw [List.length_take, h.1]; omega, fun hn => ?_⟩
  obtain ⟨b, off, rfl, hb, hc⟩ := h.2 (by omega)
  exact ⟨b, off, rfl, hb, fun j hj => by rw [gi_take hj]; exact hc j (by omega)⟩

set_option maxRecDepth 100000 in
set_option maxHeartbeats 1000000 in
theorem linesFew_walk (wide : Int) (A A' : Option Addr) (n c n' c' : Nat) (l l' : List Int) (w : World) (hA : Ints w w.heap.size A n l) (hA' : Ints w w.heap.size A' n' l') (hnc : n ≤ c)
    (hm : n ≤ 9223372036854775807) (hm' : n' ≤ 9223372036854775807) :
    Calls Try.prog 4 #[.int .i64 wide, .slice A n c, .slice A' n' c'] w fun e w' => e = .returned (.bool true) ∧ Below w.heap.size w w' := by
  by_cases hk : chk wide l = 0
  · obtain ⟨hw1, hw2, hn, hl⟩ := chk_zero hk
    have hln := hA.1
    have P2 := Lib.hid (costs_greedy hl)
    have P3 := Lib.hid (greedy_few hl l')
    have P4 := Lib.hid (best_len wide l)
    have P5 := Lib.hid (greedy_len wide l)
    have P6 := Lib.hid (best_more hl (bestCost_nonneg hl))
    have P7 := Lib.hid (greedy_eq wide l)
    have P8 := Lib.hid (fun m i f a => greedy_drop (m := m) hl (i := i) (f := f) (a := a))
    have HL := Lib.hid hl; clear hl
    go_enter Try.func4, Try.ntmps4
    go_wp2_with fail
    refine (fact_any _).mono ?_
    rintro e w1 ⟨rfl, hb1⟩
    go_wp2_with fail
    have hA1 := (hA.below hb1).more (B' := w1.heap.size) hb1.size
    refine (greedy_ok wide A n c l w1 hA1 hnc hm hk).mono ?_
    rintro e w3 ⟨v, rfl, B2, d2, rfl, hd2, hi2, hb3⟩
    have P2' := P2.out
    have P3' := P3.out
    have P5' := P5.out
    have P6' := P6.out
    have P7' := P7.out
    clear P2 P3 P5 P6 P7
    generalize greedy wide l = gl at *
    have P3 := Lib.hid P3'; clear P3'
    have P7 := Lib.hid P7'; clear P7'
    have hA3 := (hA1.below hb3).more (B' := w3.heap.size) hb3.size
    have hA3' := ((hA'.below hb1).below (hb3.mono hb1.size)).more (B' := w3.heap.size) (Nat.le_trans hb1.size hb3.size)
    have HB := Lib.hid (hb1.trans (hb3.mono hb1.size))
    have hsz : w.heap.size ≤ w3.heap.size := Nat.le_trans hb1.size hb3.size
    clear hb1 hb3 hA hA1 hA'
    have e0 : decide (costs wide l gl < 0) = false := by simp; omega
    have E0 := Lib.hid e0; clear e0 P2'
    go_wp2_with fail
    refine (costs_any wide A B2 n c _ d2 l gl w3 w3.heap.size hA3 hi2 (by omega) hw2 (by omega) hnc HL.out (by omega)).mono ?_
    rintro e w4 ⟨rfl, rfl⟩
    have e0 := E0.out
    go_wp2_with fail
    clear e0 E0
    go_loopg [10, 11] gl.length (fun f a i wr => ∃ k a' f', k + f = gl.length ∧ i = .int .i64 (k : Nat) ∧ a = .int .i64 (a' : Nat) ∧ w3 = wr ∧ a' ≤ n ∧ gl.drop k = greedyFrom wide l f' a' ∧ n ≤ a' + f')
    case atStart => exact ⟨0, 0, l.length, by omega, rfl, rfl, rfl, by omega, P7.out, by omega⟩
    case round =>
      obtain ⟨k, a', f', hkf, rfl, rfl, rfl, ha, hd, hf'⟩ := hrel
      have HD := Lib.hid hd; clear hd
      by_cases hlt : k + 1 < gl.length
      · obtain ⟨q1, q2, q3, q4, q5, f2, q6, q7⟩ := P8.out gl k f' a' HD.out hlt (by omega)
        obtain ⟨b, off, rfl, hBk, hc⟩ := hi2.at_ (k := k) (by omega)
        rw [q2] at hc
        generalize gw wide l a' = g at *
        have Q2 := Lib.hid q2; clear q2
        have Q6 := Lib.hid q6; clear q6
        have hsub : a' + g + 1 - a' = g + 1 := by omega
        rw [← hsub] at q5
        have Q5 := Lib.hid q5; clear q5
        have HS := Lib.hid hsub; clear hsub
        have hcut : Ints w3 w3.heap.size (Option.map (fun x => x.add a') A) (a' + g + 1 - a') ((l.drop a').take (a' + g + 1 - a')) :=
          hA3.cut (i := a') (j := a' + g + 1) (by omega) (by omega) (A' := A.map (·.add a')) (fun _ => rfl)
        have hlk : ∀ x ∈ (l.drop a').take (a' + g + 1 - a'), 0 ≤ x ∧ x ≤ 30 := fun x hx => (fun h => ⟨by omega, by omega⟩ : 1 ≤ x ∧ x ≤ wide → 0 ≤ x ∧ x ≤ 30) (HL.out x (List.mem_of_mem_drop (List.mem_of_mem_take hx)))
        go_wp2_with fail
        refine (room_any wide _ _ _ _ _ _ hcut (by omega) hw2 (by omega) hlk).mono ?_
        rintro e w4 ⟨rfl, rfl⟩
        have q5 := Q5.out
        generalize left wide ((l.drop a').take (a' + g + 1 - a')) = room at *
        have q5' : decide (0 ≤ room) = false := by simpa using q5
        clear q5 Q5
        obtain ⟨fg, rfl⟩ : ∃ fg, gk = fg + 1 := ⟨gk - 1, by omega⟩
        go_wp2_with fail
        go_roundg fg
        case measure => omega
        case rel => exact ⟨k + 1, a' + g, f2, by omega, by simp, by simp, rfl, by omega, Q6.out, by omega⟩
      · go_wp2_with fail
        refine (best_ok wide A n c l w3 hA3 hnc hm hk).mono ?_
        rintro e w5 ⟨v, rfl, B5, d5, rfl, hd5, hi5, hb5⟩
        have P4' := P4.out
        clear P4
        generalize best wide l = bl at *
        generalize bestCost wide l = bc at *
        have e1 : decide ((bl.length : Int) < (gl.length : Int)) = false := by simp; omega
        have hA5 := (hA3.below hb5).more (B' := w5.heap.size) hb5.size
        have hA5' := (hA3'.below hb5).more (B' := w5.heap.size) hb5.size
        have HB5 := Lib.hid (HB.out.trans (hb5.mono hsz))
        clear hb5 hi5 hi2
        go_wp2_with fail
        refine (costs_any wide A A' n c n' c' l l' w5 w5.heap.size hA5 hA5' (by omega) hw2 (by omega) hnc HL.out hm').mono ?_
        rintro e w4 ⟨rfl, rfl⟩
        have hl2 := hA5'.1
        have e3 := P3.out
        by_cases hneg : costs wide l l' < 0
        · clear e3
          have hneg' : decide (costs wide l l' < 0) = true := by simpa using hneg
          go_wp2_with fail
          go_ret
          exact ⟨rfl, HB5.out⟩
        · have hneg' : decide (costs wide l l' < 0) = false := by simpa using hneg
          have hge : decide ((gl.length : Int) ≤ (n' : Int)) = true := by simp; omega
          have HG := Lib.hid (show gl.length ≤ n' by omega)
          clear e3
          go_wp2_with fail
          go_ret
          exact ⟨ret_bool (by have := HG.out; simp; omega), HB5.out⟩
  · have hev := Lib.hid (err_ne hk)
    go_enter Try.func4, Try.ntmps4
    go_wp2_with fail
    refine (fact_any _).mono ?_
    rintro e w1 ⟨rfl, hb1⟩
    go_wp2_with fail
    have hA1 := (hA.below hb1).more (B' := w1.heap.size) hb1.size
    refine (greedy_no wide A n c l w1 _ hA1 hm hk).mono ?_
    rintro e w2 ⟨rfl, rfl⟩
    rw [hev.out]
    generalize chk wide l = k at *
    clear hk
    go_wp2_with fail
    go_ret
    exact ⟨ret_bool (by simp), hb1⟩

theorem chk_wider {wide k : Int} {l : List Int} (h : chk wide l = 0) (h1 : wide ≤ k) (h2 : k ≤ 30) : chk k l = 0 := by
  obtain ⟨a, b, c, d⟩ := chk_zero h
  unfold chk
  rw [if_pos ⟨by omega, h2⟩, if_neg (by omega), if_pos]
  intro x hx
  have := d x hx
  omega
theorem chk_less {wide : Int} {l : List Int} {m : Nat} (h : chk wide l = 0) : chk wide (l.take m) = 0 := by
  obtain ⟨a, b, c, d⟩ := chk_zero h
  unfold chk
  rw [if_pos ⟨a, b⟩, if_neg (by rw [List.length_take]; omega), if_pos]
  intro x hx
  exact d x (List.mem_of_mem_take hx)

set_option maxRecDepth 100000 in
set_option maxHeartbeats 1000000 in
theorem linesWider_walk (wide k : Int) (A : Option Addr) (n c : Nat) (l : List Int) (w : World) (hA : Ints w w.heap.size A n l) (hnc : n ≤ c) (hm : n ≤ 9223372036854775807) :
    Calls Try.prog 5 #[.int .i64 wide, .slice A n c, .int .i64 k] w fun e w' => e = .returned (.bool true) ∧ Below w.heap.size w w' := by
  by_cases hk : chk wide l = 0
  · obtain ⟨hw1, hw2, hn, hl⟩ := chk_zero hk
    have hln := hA.1
    have P5 := Lib.hid (greedy_len wide l)
    have P6 := Lib.hid (fun h : 1 ≤ l.length => bestCost_less hl h)
    have P7 := Lib.hid (fun h : wide ≤ k => greedy_wider h hl)
    have HL := Lib.hid hl; clear hl
    go_enter Try.func5, Try.ntmps5
    go_wp2_with fail
    refine (fact_any _).mono ?_
    rintro e w1 ⟨rfl, hb1⟩
    go_wp2_with fail
    have hA1 := (hA.below hb1).more (B' := w1.heap.size) hb1.size
    refine (greedy_ok wide A n c l w1 hA1 hnc hm hk).mono ?_
    rintro e w3 ⟨v, rfl, B2, d2, rfl, hd2, hi2, hb3⟩
    have P5' := P5.out
    have P7' := P7.out
    clear P5 P7
    have hA3 := (hA1.below hb3).more (B' := w3.heap.size) hb3.size
    have HB := Lib.hid (hb1.trans (hb3.mono hb1.size))
    have hsz : w.heap.size ≤ w3.heap.size := Nat.le_trans hb1.size hb3.size
    clear hb1 hb3 hA hA1
    generalize hgl : greedy wide l = gl at *
    have Hgl := Lib.hid hgl; clear hgl
    have P7 := Lib.hid P7'; clear P7'
    by_cases hin : wide ≤ k ∧ k ≤ 30
    · have HI := Lib.hid (show decide (wide ≤ k ∧ k ≤ 30) = true from by simpa using hin)
      obtain ⟨hin1, hin2⟩ := hin
      have P7'' := P7.out hin1
      have P8 := greedy_len k l
      go_wp2_with fail
      refine (in_any _ _ _ _).mono ?_
      rintro e w' ⟨rfl, rfl⟩
      rw [HI.out]
      go_wp2_with fail
      refine (greedy_ok k A n c l w3 hA3 hnc hm (chk_wider hk hin1 hin2)).mono ?_
      rintro e w4 ⟨v, rfl, B4, d4, rfl, hd4, hi4, hb4⟩
      generalize greedy k l = gk at *
      have hA4 := (hA3.below hb4).more (B' := w4.heap.size) hb4.size
      have HB4 := Lib.hid (HB.out.trans (hb4.mono hsz))
      have hsz4 : w.heap.size ≤ w4.heap.size := Nat.le_trans hsz hb4.size
      have e1 : decide ((gl.length : Int) < (gk.length : Int)) = false := by simp; omega
      clear hb4 hi4 hi2
      by_cases h0 : n = 0
      · subst h0
        have hg0 : gl.length = 0 := by omega
        have e2 : ((gl.length : Int) == 0) = true := by rw [beq_iff_eq]; omega
        clear hg0
        go_wp2_with fail
        go_ret
        exact ⟨rfl, HB4.out⟩
      · have e2 : ((n : Int) == 0) = false := by simp; omega
        have P6' := P6.out (by have := h0; omega)
        clear P6
        rw [List.dropLast_eq_take, hln] at P6'
        go_wp2_with fail
        refine (best_ok wide A n c l w4 hA4 hnc hm hk).mono ?_
        rintro e w5 ⟨v, rfl, B5, d5, rfl, hd5, hi5, hb5⟩
        have hA5 := (hA4.below hb5).more (B' := w5.heap.size) hb5.size
        have HB5 := Lib.hid (HB4.out.trans (hb5.mono hsz4))
        have hsz5 : w.heap.size ≤ w5.heap.size := Nat.le_trans hsz4 hb5.size
        clear hb5 hi5
        go_wp2_with fail
        have hA6 : Ints w5 w5.heap.size A (n - 1) (l.take (n - 1)) := hA5.pre (by omega)
        refine (best_ok wide A (n - 1) c _ w5 hA6 (by omega) (by omega) (chk_less hk)).mono ?_
        rintro e w6 ⟨v, rfl, B6, d6, rfl, hd6, hi6, hb6⟩
        have HB6 := Lib.hid (HB5.out.trans (hb6.mono hsz5))
        clear hb6 hi6
        have e3 : decide (bestCost wide (l.take (n - 1)) ≤ bestCost wide l) = true := by simpa using P6'
        clear P6'
        generalize bestCost wide (l.take (n - 1)) = b1 at *
        generalize bestCost wide l = b2 at *
        go_wp2_with fail
        go_ret
        exact ⟨rfl, HB6.out⟩
    · have HI := Lib.hid (show decide (wide ≤ k ∧ k ≤ 30) = false from by simpa using hin)
      clear hin
      go_wp2_with fail
      refine (in_any _ _ _ _).mono ?_
      rintro e w' ⟨rfl, rfl⟩
      rw [HI.out]
      go_wp2_with fail
      go_ret
      exact ⟨rfl, HB.out⟩
  · have hev := Lib.hid (err_ne hk)
    go_enter Try.func5, Try.ntmps5
    go_wp2_with fail
    refine (fact_any _).mono ?_
    rintro e w1 ⟨rfl, hb1⟩
    go_wp2_with fail
    have hA1 := (hA.below hb1).more (B' := w1.heap.size) hb1.size
    refine (greedy_no wide A n c l w1 _ hA1 hm hk).mono ?_
    rintro e w2 ⟨rfl, rfl⟩
    rw [hev.out]
    generalize chk wide l = k at *
    clear hk
    go_wp2_with fail
    go_ret
    exact ⟨rfl, hb1⟩
end Go.Proofs.Ytikkcjclhalhgaa
