/- The walk over the document's full lines, and over the law LinesSays. Condition of the last: errors.errorType reads as the handle of the type error. -/
import Derived.Test.YtikkcjclhalhgaaDoorLinesT
namespace Go.Proofs.YtikkcjclhalhgaaDoor
open Go.RowKit LinesM

theorem gw_pick {wide : Int} {l : List Int} (hw : ∀ x ∈ l, 1 ≤ x ∧ x ≤ wide) {i k : Nat} (hi : i < l.length) (hk : gw wide l i ≤ k) (hk2 : i + k ≤ l.length) : 0 ≤ rm wide l i k ↔ k = gw wide l i := by
  constructor
  · intro h
    have := gw_max hw hi hk2 h
    omega
  · intro h; rw [h]; exact (gw_spec hw i hi).2.2.1
theorem full_step {wide : Int} {l : List Int} {n i k f : Nat} {acc T : List Int} (hln : l.length = n) (hi : i < n) (hk : k = gw wide l i) (h : greedyGo wide l (f + 1) i acc = T) :
    greedyGo wide l f (i + k) (acc ++ [(k : Int)]) = T := greedy_step hln hi (by subst hln; exact hk) h

set_option maxRecDepth 100000 in
set_option maxHeartbeats 2000000 in
theorem rfull_any (wide : Int) (A : Option Addr) (n c : Nat) (l : List Int) (w : World) (hA : Ints w w.heap.size A n l) (hw0 : 0 ≤ wide) (hw1 : wide ≤ 30) (hn : n ≤ 20) (hnc : n ≤ c)
    (hl : ∀ x ∈ l, 1 ≤ x ∧ x ≤ wide) :
    Calls Tryd.prog 9 #[.int .i64 wide, .slice A n c] w fun e w' => ∃ v, e = .returned v ∧ Res w w' v (greedy wide l) := by
  obtain ⟨i0, hi0, hz0, hz1, hz2⟩ := info_parts info_int
  have hln := hA.1
  have HL := Lib.hid hl; clear hl
  go_enter Tryd.func9, Tryd.ntmps9
  go_wp2_with fail
  go_loopg [1, 5] n (fun f sv v wr => ∃ i : Nat, ∃ acc : List Int, ∃ A' : Option Addr, ∃ c' : Nat, i ≤ n ∧ acc.length ≤ i ∧ sv = .slice A' (n - i) c' ∧ n - i ≤ c' ∧ Below w.heap.size w wr ∧ Ints wr w.heap.size A' (n - i) (l.drop i) ∧ wr.ownsRow w.heap.size 3 1 v (acc.map (Value.int .i64)).length (acc.map (Value.int .i64)) ∧
           n ≤ i + f ∧ greedyGo wide l f i acc = greedy wide l)
  case atStart => exact ⟨0, [], A, c, Nat.zero_le _, Nat.le_refl _, rfl, hnc, Below.refl _ _, hA, World.ownsRow_nil _ _ _ _, by omega, by subst hln; rfl⟩
  case round =>
    obtain ⟨i, acc, A', c', hi, hacc, rfl, hc', hB, hA', hown, hkf, hT⟩ := hrel
    have HT := Lib.hid hT; clear hT
    have Hown := Lib.hid hown; clear hown
    by_cases hlt : i < n
    · obtain ⟨f, rfl⟩ : ∃ f, gk = f + 1 := ⟨gk - 1, by omega⟩
      obtain ⟨m, hm⟩ : ∃ m, m = n - i := ⟨_, rfl⟩
      rw [← hm] at hA' hc' ⊢
      have Hm := Lib.hid hm
      have hm1 : 0 < m := by omega
      have hm2 : i + m = n := by omega
      clear hm
      obtain ⟨g1, g2, _, _⟩ := gw_spec HL.out i (by omega)
      go_wp2_with fail
      obtain ⟨w1, rfl⟩ : ∃ w1 : World, w1 = wr := ⟨_, rfl⟩
      go_loopg [6] m (fun q kv wr => ∃ k : Nat, k = q ∧ gw wide l i ≤ k ∧ k ≤ m ∧ kv = .int .i64 k ∧ w1 = wr)
      case atStart => exact ⟨m, rfl, by omega, Nat.le_refl _, rfl, rfl⟩
      case round =>
        obtain ⟨k, rfl, hk1, hk2, rfl, rfl⟩ := hrel
        have hcut : Ints w1 w.heap.size A' k ((l.drop i).take k) := by
          refine ⟨by simp; omega, fun h => ?_⟩
          obtain ⟨b, off, e, hb, hc⟩ := hA'.2 (by omega)
          exact ⟨b, off, e, hb, fun j hj => by rw [gi_take hj]; exact hc j (by omega)⟩
        have hlk : ∀ x ∈ (l.drop i).take k, 0 ≤ x ∧ x ≤ 30 := fun x hx => (fun h => ⟨by omega, by omega⟩ : 1 ≤ x ∧ x ≤ wide → 0 ≤ x ∧ x ≤ 30) (HL.out x (List.mem_of_mem_drop (List.mem_of_mem_take hx)))
        have hpk := gw_pick HL.out (i := i) (k := k) (by omega) hk1 (by omega)
        have HPk := Lib.hid hpk
        clear hpk
        go_wp2_with fail
        refine (room_any wide _ _ _ _ w1 _ hcut hw0 hw1 (by omega) hlk).mono ?_
        rintro e w' ⟨rfl, rfl⟩
        clear hcut hlk
        generalize hroom : left wide ((l.drop i).take k) = room at *
        have HRm : Hid (rm wide l i k = room) := hroom
        clear hroom
        by_cases hr : 0 ≤ room
        · have hkg : k = gw wide l i := HPk.out.1 (by rw [HRm.out]; exact hr)
          have HK := Lib.hid hkg
          have hd : Ints w1 w.heap.size (A'.map (·.add k)) (m - k) ((l.drop (i + k))) := by
            have := hA'.cut (i := k) (j := m) hk2 (Nat.le_refl _) (A' := A'.map (·.add k)) (fun _ => rfl)
            rw [List.take_of_length_le (by simp; omega), List.drop_drop] at this
            exact this
          clear hkg
          by_cases hck : c' = k
          · obtain rfl : k = m := by omega
            have hck2 := hck.symm
            subst hck2
            clear hck
            go_wp2_with (at_builtin; refine wpList_append1 rfl (.tmp 20) (.tmp 22) _ rfl 3 i0 _ Tryd.underlying22 hi0 hz0 hz1 (by omega) rfl w.heap.size _ _ (.int .i64 (k : Int)) rfl rfl rfl Hown.out (by simp; omega) hB.size ?_; intro v' w' hown' hB')
            go_roundg f
            case measure => omega
            case rel =>
              refine ⟨i + k, acc ++ [(k : Int)], A', 0, by omega, by simp; omega, ?_, by omega, hB.trans hB', ?_, by simpa using hown', by omega, full_step hln hlt HK.out HT.out⟩
              · rw [show n - (i + k) = 0 from by omega]
              · rw [show n - (i + k) = 0 from by omega]; exact ⟨by simp; omega, fun h => absurd h (by omega)⟩
          · have _hx := hck
            go_wp2_with (at_builtin; refine wpList_append1 rfl (.tmp 20) (.tmp 22) _ rfl 3 i0 _ Tryd.underlying22 hi0 hz0 hz1 (by omega) rfl w.heap.size _ _ (.int .i64 (k : Int)) rfl rfl rfl Hown.out (by simp; omega) hB.size ?_; intro v' w' hown' hB')
            go_roundg f
            case measure => omega
            case rel =>
              refine ⟨i + k, acc ++ [(k : Int)], A'.map (·.add k), c' - k, by omega, by simp; omega, ?_, by omega, hB.trans hB', ?_, by simpa using hown', by omega, full_step hln hlt HK.out HT.out⟩
              · rw [show n - (i + k) = m - k from by omega]
              · rw [show n - (i + k) = m - k from by omega]; exact hd.below hB'
        · have hkg : k ≠ gw wide l i := fun h => hr (by rw [← HRm.out]; exact HPk.out.2 h)
          have hkk : (k : Int) - 1 = ((k - 1 : Nat) : Int) := by omega
          have HKK := Lib.hid hkk
          have hlt3 : gw wide l i < k := by omega
          clear hkg hkk
          go_wp2_with fail
          go_roundg (k - 1)
          case measure => omega
          case rel => exact ⟨k - 1, rfl, by omega, by omega, by rw [← HKK.out], rfl⟩
    · have h := HT.out
      have h' : greedyGo wide l gk i acc = acc := by
        cases gk with
        | zero => rfl
        | succ f => unfold greedyGo; rw [if_neg (by omega)]
      rw [h'] at h
      have HH := Lib.hid h
      clear h h'
      rw [show n - i = 0 from by omega]
      go_wp2_with fail
      go_ret
      exact ⟨_, rfl, Res.of_own (by rw [← HH.out]; exact Hown.out) hB⟩

set_option maxRecDepth 100000 in
set_option maxHeartbeats 2000000 in
theorem linesSays_walk (wide : Int) (A : Option Addr) (n c : Nat) (l : List Int) (w : World) (hA : Ints w w.heap.size A n l) (hnc : n ≤ c) (hm : n ≤ 9223372036854775807) (hg : HG w) :
    Calls Tryd.prog 3 #[.int .i64 wide, .slice A n c] w fun e w' => e = .returned (.bool true) ∧ Below w.heap.size w w' := by
  have hln := hA.1
  have HGH := Lib.hid hg; clear hg
  go_enter Tryd.func3, Tryd.ntmps3
  go_wp2_with fail
  refine (rlines_any wide A n c l w _ hA hm).mono ?_
  rintro e w' ⟨rfl, rfl⟩
  go_wp2_with fail
  refine (check_any wide A n c l w _ hA hm).mono ?_
  rintro e w' ⟨rfl, rfl⟩
  go_wp2_with fail
  refine (error_any (chk wide l) (chk wide l) w HGH.out).mono ?_
  rintro e w1 ⟨rfl, hb1⟩
  have HG1 := Lib.hid (HGH.out.below hb1 (Nat.le_refl _))
  have hA1 := (hA.below hb1).more (B' := w1.heap.size) hb1.size
  have HB1 := Lib.hid hb1; clear hb1
  rw [show (chk wide l == chk wide l) = true from by simp]
  by_cases hk : chk wide l = 0
  · obtain ⟨q1, q2, q3, q4⟩ := chk_zero hk
    have Hk := Lib.hid hk
    rw [hk]
    clear hk
    go_wp2_with fail
    refine (rbest_any wide A n c l w1 hA1 (by omega) q2 (by omega) hnc q4).mono ?_
    rintro e w2 ⟨v2, rfl, A2, c2, rfl, hc2, hi2, hb2⟩
    have hA2 := (hA1.below hb2).more (B' := w2.heap.size) hb2.size
    have HB2 := Lib.hid (HB1.out.trans (hb2.mono HB1.out.size))
    have HG2 := Lib.hid (HG1.out.below hb2 (Nat.le_refl _))
    clear hb2 HB1 HG1 hA1
    go_wp2_with fail
    refine (rcosts_any wide A n c l w2 hA2 (by omega) q2 (by omega) hnc q4).mono ?_
    rintro e w3 ⟨g3, cs, rfl, hb3, hblk, hg3, hcl, hcs⟩
    have hA3 := (hA2.below hb3).more (B' := w3.heap.size) hb3.size
    have hi3 := (hi2.below hb3).more (B' := w3.heap.size) hb3.size
    have HB3 := Lib.hid (HB2.out.trans (hb3.mono HB2.out.size))
    have HG3 := Lib.hid (HG2.out.below hb3 (Nat.le_refl _))
    have hcell := blk_ints hblk (j := 0) (by omega)
    rw [hcs 0 (by omega) (by omega)] at hcell
    clear hb3 HB2 HG2 hA2 hi2 hblk hcs
    go_wp2_with fail
    refine (rfull_any wide A n c l w3 hA3 (by omega) q2 (by omega) hnc q4).mono ?_
    rintro e w4 ⟨v4, rfl, A4, c4, rfl, hc4, hi4, hb4⟩
    have hA4 := (hA3.below hb4).more (B' := w4.heap.size) hb4.size
    have hi4b := (hi3.below hb4).more (B' := w4.heap.size) hb4.size
    have HB4 := Lib.hid (HB3.out.trans (hb4.mono HB3.out.size))
    have HG4 := Lib.hid (HG3.out.below hb4 (Nat.le_refl _))
    clear hb4 HB3 HG3 hA3 hi3 hcell
    go_wp2_with fail
    refine (best_ok wide A n c l w4 hA4 hnc hm Hk.out).mono ?_
    rintro e w5 ⟨v5, rfl, A5, c5, rfl, hc5, hi5, hb5⟩
    rw [show bestCost wide l = C wide l 0 from rfl]
    have hA5 := (hA4.below hb5).more (B' := w5.heap.size) hb5.size
    have hi5b := (hi4b.below hb5).more (B' := w5.heap.size) hb5.size
    have hi5f := (hi4.below hb5).more (B' := w5.heap.size) hb5.size
    have HB5 := Lib.hid (HB4.out.trans (hb5.mono HB4.out.size))
    have HG5 := Lib.hid (HG4.out.below hb5 (Nat.le_refl _))
    have bl := best_len wide l
    have gl := greedy_len wide l
    clear hb5 HB4 HG4 hA4 hi4b hi4
    go_wp2_with fail
    refine (error_any 0 0 w5 HG5.out).mono ?_
    rintro e w6 ⟨rfl, hb6⟩
    have hA6 := (hA5.below hb6).more (B' := w6.heap.size) hb6.size
    have hi6b := (hi5b.below hb6).more (B' := w6.heap.size) hb6.size
    have hi6 := (hi5.below hb6).more (B' := w6.heap.size) hb6.size
    have hi6f := (hi5f.below hb6).more (B' := w6.heap.size) hb6.size
    have HB6 := Lib.hid (HB5.out.trans (hb6.mono HB5.out.size))
    have HG6 := Lib.hid (HG5.out.below hb6 (Nat.le_refl _))
    clear hb6 HB5 HG5 hA5 hi5b hi5 hi5f
    go_wp2_with fail
    refine (ints_any _ _ _ _ _ _ _ _ w6 w6.heap.size hi6 hi6b (by omega) (by omega)).mono ?_
    rintro e w7 ⟨rfl, hb7⟩
    rw [show decide (best wide l = best wide l) = true from by simp]
    have hA7 := (hA6.below hb7).more (B' := w7.heap.size) hb7.size
    have hi7f := (hi6f.below hb7).more (B' := w7.heap.size) hb7.size
    have HB7 := Lib.hid (HB6.out.trans (hb7.mono HB6.out.size))
    have HG7 := Lib.hid (HG6.out.below hb7 (Nat.le_refl _))
    clear hb7 HB6 HG6 hA6 hi6b hi6 hi6f
    go_wp2_with fail
    refine (greedy_ok wide A n c l w7 hA7 hnc hm Hk.out).mono ?_
    rintro e w8 ⟨v8, rfl, A8, c8, rfl, hc8, hi8, hb8⟩
    have hi8f := (hi7f.below hb8).more (B' := w8.heap.size) hb8.size
    have HB8 := Lib.hid (HB7.out.trans (hb8.mono HB7.out.size))
    have HG8 := Lib.hid (HG7.out.below hb8 (Nat.le_refl _))
    clear hb8 HB7 HG7 hA7 hi7f
    go_wp2_with fail
    refine (error_any 0 0 w8 HG8.out).mono ?_
    rintro e w9 ⟨rfl, hb9⟩
    have hi9f := (hi8f.below hb9).more (B' := w9.heap.size) hb9.size
    have hi9 := (hi8.below hb9).more (B' := w9.heap.size) hb9.size
    have HB9 := Lib.hid (HB8.out.trans (hb9.mono HB8.out.size))
    clear hb9 HB8 HG8 hi8f hi8
    go_wp2_with fail
    refine (ints_any _ _ _ _ _ _ _ _ w9 w9.heap.size hi9 hi9f (by omega) (by omega)).mono ?_
    rintro e w10 ⟨rfl, hb10⟩
    rw [show decide (greedy wide l = greedy wide l) = true from by simp]
    have HB10 := Lib.hid (HB9.out.trans (hb10.mono HB9.out.size))
    clear hb10
    go_wp2_with fail
    go_ret
    exact ⟨rfl, HB10.out⟩
  · have e1 : (chk wide l == 0) = false := by rw [beq_eq_false_iff_ne]; exact hk
    go_wp2_with fail
    refine (best_no wide A n c l w1 _ hA1 hm hk).mono ?_
    rintro e w2 ⟨rfl, rfl⟩
    go_wp2_with fail
    refine (error_any (chk wide l) (chk wide l) w1 HG1.out).mono ?_
    rintro e w3 ⟨rfl, hb3⟩
    have hA3 := (hA1.below hb3).more (B' := w3.heap.size) hb3.size
    have HB3 := Lib.hid (HB1.out.trans (hb3.mono HB1.out.size))
    have HG3 := Lib.hid (HG1.out.below hb3 (Nat.le_refl _))
    rw [show (chk wide l == chk wide l) = true from by simp]
    clear hb3 HB1 HG1 hA1
    go_wp2_with fail
    refine (ints_any none none 0 0 0 0 [] [] w3 w3.heap.size (Ints.nil_ _ _ _) (Ints.nil_ _ _ _) (by omega) (by omega)).mono ?_
    rintro e w4 ⟨rfl, hb4⟩
    rw [show decide (([] : List Int) = []) = true from by simp]
    have hA4 := (hA3.below hb4).more (B' := w4.heap.size) hb4.size
    have HB4 := Lib.hid (HB3.out.trans (hb4.mono HB3.out.size))
    have HG4 := Lib.hid (HG3.out.below hb4 (Nat.le_refl _))
    clear hb4 HB3 HG3 hA3
    go_wp2_with fail
    refine (greedy_no wide A n c l w4 _ hA4 hm hk).mono ?_
    rintro e w5 ⟨rfl, rfl⟩
    go_wp2_with fail
    refine (error_any (chk wide l) (chk wide l) w4 HG4.out).mono ?_
    rintro e w6 ⟨rfl, hb6⟩
    have HB6 := Lib.hid (HB4.out.trans (hb6.mono HB4.out.size))
    rw [show (chk wide l == chk wide l) = true from by simp]
    clear hb6 HB4 HG4 hA4
    go_wp2_with fail
    refine (ints_any none none 0 0 0 0 [] [] w6 w6.heap.size (Ints.nil_ _ _ _) (Ints.nil_ _ _ _) (by omega) (by omega)).mono ?_
    rintro e w7 ⟨rfl, hb7⟩
    rw [show decide (([] : List Int) = []) = true from by simp]
    have HB7 := Lib.hid (HB6.out.trans (hb7.mono HB6.out.size))
    clear hb7
    go_wp2_with fail
    go_ret
    exact ⟨rfl, HB7.out⟩
end Go.Proofs.YtikkcjclhalhgaaDoor
