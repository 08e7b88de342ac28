/- The walk over the document's Rules; gram.Has where Names tells an error. No condition. -/
import Derived.Test.YtlbiklhndcamhaaDoorGramW
namespace Go.Proofs.YtlbiklhndcamhaaDoor
open Go.RowKit GramM IntWalk
attribute [local go_sem] byte_at str_app

set_option maxRecDepth 100000 in
set_option maxHeartbeats 2000000 in
theorem rulesR_any (L : List Ru) (w : World) (A : Option Addr) (n c : Nat) (hn : n ≤ 9223372036854775807) (hR : Rules w w.heap.size A n L) :
    Calls Tryd.prog 5 #[.slice A n c] w fun e w' => e = .returned (.int .i64 (chk L)) ∧ Below w.heap.size w w' := by
  have hLn := hR.1
  by_cases h10 : 10 < n
  · have HC := Lib.hid (show chk L = 4 by unfold chk; rw [if_pos (by omega)])
    go_enter Tryd.func5, Tryd.ntmps5
    go_wp2_with fail
    go_ret
    exact ⟨by rw [HC.out]; rfl, Below.refl _ _⟩
  · have HC := Lib.hid (show chk L = if L.all okR then 0 else 2 by unfold chk; rw [if_neg (by omega)])
    have HR := Lib.hid hR
    go_enter Tryd.func5, Tryd.ntmps5
    go_wp2_with fail
    go_loopg [3] n (fun f kv wr => ∃ k : Nat, k + f = n ∧ kv = .int .i64 (k : Int) ∧ (L.take k).all okR = true ∧ Below w.heap.size w wr)
    case atStart => exact ⟨0, by omega, rfl, by simp, Below.refl _ _⟩
    case round =>
      obtain ⟨k, hkf, rfl, hall, hB⟩ := hrel
      by_cases hlt : k < n
      · obtain ⟨f, rfl⟩ : ∃ f, gk = f + 1 := ⟨gk - 1, by omega⟩
        have hR1 := HR.out.below hB
        obtain ⟨b, off, rfl, hb, hc⟩ := hR1.2 (by omega)
        obtain ⟨c1, c2⟩ := hc k hlt
        have hbs := hB.size
        clear hc
        have hno : okR (ru L k) = false → chk L = 2 := fun h => by
          rw [HC.out, if_neg]
          intro h2
          rw [List.all_eq_true] at h2
          have := h2 _ (ru_mem (L := L) (j := k) (by omega))
          rw [h] at this; cases this
        have hyes : okR (ru L k) = true → (L.take (k + 1)).all okR = true := fun h => by
          rw [take_succ_ru (by omega), List.all_append, hall]; simp [h]
        have HNO := Lib.hid hno; have HYES := Lib.hid hyes
        clear hno hyes hall hR1
        have HB := Lib.hid hB; clear hB
        have HB1 : Hid (Below w.heap.size w (wr.alloc (.cells #[.int .u8 ((ru L k).nm.toNat : Int), S (ru L k).is] 35))) := Lib.hid (HB.out.alloc hbs _)
        clear HC HR
        generalize ru L k = r at *
        by_cases p1 : (65 : Int) ≤ (r.nm.toNat : Int)
        · by_cases p2 : (r.nm.toNat : Int) ≤ 90
          · by_cases hl1 : r.is.length = 1
            · have hl0 : 0 < r.is.length := by omega
              have hd1 : ((r.is.length : Int) == 1) = true := by simp; omega
              have hd1' : (r.is.length == 1) = true := by simp; omega
              have hd2' : (r.is.length == 2) = false := by simp; omega
              clear hl1
              by_cases q102 : (97 : Int) ≤ ((bu r.is 0).toNat : Int)
              · by_cases q101 : ((bu r.is 0).toNat : Int) ≤ 122
                · have HOK := Lib.hid (HYES.out (by unfold okR; rw [hd1', hd2']; simp; omega))
                  clear HNO HYES
                  go_wp2_with fail
                  go_roundg f
                  case measure => omega
                  case rel => exact ⟨k + 1, by omega, by simp, HOK.out, HB1.out⟩
                · have HOK := Lib.hid (HNO.out (by unfold okR; rw [hd1', hd2']; simp <;> omega))
                  clear HNO HYES
                  go_wp2_with fail
                  go_ret
                  exact ⟨by rw [HOK.out]; rfl, HB1.out⟩
              · have HOK := Lib.hid (HNO.out (by unfold okR; rw [hd1', hd2']; simp <;> omega))
                clear HNO HYES
                go_wp2_with fail
                go_ret
                exact ⟨by rw [HOK.out]; rfl, HB1.out⟩
            · by_cases hl2 : r.is.length = 2
              · have hl0 : 0 < r.is.length := by omega
                have hl1'' : 1 < r.is.length := by omega
                have hd1 : ((r.is.length : Int) == 1) = false := by simp; omega
                have hd1' : (r.is.length == 1) = false := by simp; omega
                have hd2 : ((r.is.length : Int) == 2) = true := by simp; omega
                have hd2' : (r.is.length == 2) = true := by simp; omega
                clear hl1 hl2
                by_cases q104 : (65 : Int) ≤ ((bu r.is 0).toNat : Int)
                · by_cases q103 : ((bu r.is 0).toNat : Int) ≤ 90
                  · by_cases q102 : (65 : Int) ≤ ((bu r.is 1).toNat : Int)
                    · by_cases q101 : ((bu r.is 1).toNat : Int) ≤ 90
                      · have HOK := Lib.hid (HYES.out (by unfold okR; rw [hd1', hd2']; simp; omega))
                        clear HNO HYES
                        go_wp2_with fail
                        go_roundg f
                        case measure => omega
                        case rel => exact ⟨k + 1, by omega, by simp, HOK.out, HB1.out⟩
                      · have HOK := Lib.hid (HNO.out (by unfold okR; rw [hd1', hd2']; simp <;> omega))
                        clear HNO HYES
                        go_wp2_with fail
                        go_ret
                        exact ⟨by rw [HOK.out]; rfl, HB1.out⟩
                    · have HOK := Lib.hid (HNO.out (by unfold okR; rw [hd1', hd2']; simp <;> omega))
                      clear HNO HYES
                      go_wp2_with fail
                      go_ret
                      exact ⟨by rw [HOK.out]; rfl, HB1.out⟩
                  · have HOK := Lib.hid (HNO.out (by unfold okR; rw [hd1', hd2']; simp <;> omega))
                    clear HNO HYES
                    go_wp2_with fail
                    go_ret
                    exact ⟨by rw [HOK.out]; rfl, HB1.out⟩
                · have HOK := Lib.hid (HNO.out (by unfold okR; rw [hd1', hd2']; simp <;> omega))
                  clear HNO HYES
                  go_wp2_with fail
                  go_ret
                  exact ⟨by rw [HOK.out]; rfl, HB1.out⟩
              · have hd1 : ((r.is.length : Int) == 1) = false := by simp; omega
                have hd1' : (r.is.length == 1) = false := by simp; omega
                have hd2 : ((r.is.length : Int) == 2) = false := by simp; omega
                have hd2' : (r.is.length == 2) = false := by simp; omega
                clear hl1 hl2
                have HOK := Lib.hid (HNO.out (by unfold okR; rw [hd1', hd2']; simp <;> omega))
                clear HNO HYES
                go_wp2_with fail
                go_ret
                exact ⟨by rw [HOK.out]; rfl, HB1.out⟩
          · by_cases hl1 : r.is.length = 1
            · have hl0 : 0 < r.is.length := by omega
              have hd1 : ((r.is.length : Int) == 1) = true := by simp; omega
              have hd1' : (r.is.length == 1) = true := by simp; omega
              have hd2' : (r.is.length == 2) = false := by simp; omega
              clear hl1
              have HOK := Lib.hid (HNO.out (by unfold okR; rw [hd1', hd2']; simp <;> omega))
              clear HNO HYES
              go_wp2_with fail
              go_ret
              exact ⟨by rw [HOK.out]; rfl, HB1.out⟩
            · by_cases hl2 : r.is.length = 2
              · have hl0 : 0 < r.is.length := by omega
                have hl1'' : 1 < r.is.length := by omega
                have hd1 : ((r.is.length : Int) == 1) = false := by simp; omega
                have hd1' : (r.is.length == 1) = false := by simp; omega
                have hd2 : ((r.is.length : Int) == 2) = true := by simp; omega
                have hd2' : (r.is.length == 2) = true := by simp; omega
                clear hl1 hl2
                have HOK := Lib.hid (HNO.out (by unfold okR; rw [hd1', hd2']; simp <;> omega))
                clear HNO HYES
                go_wp2_with fail
                go_ret
                exact ⟨by rw [HOK.out]; rfl, HB1.out⟩
              · have hd1 : ((r.is.length : Int) == 1) = false := by simp; omega
                have hd1' : (r.is.length == 1) = false := by simp; omega
                have hd2 : ((r.is.length : Int) == 2) = false := by simp; omega
                have hd2' : (r.is.length == 2) = false := by simp; omega
                clear hl1 hl2
                have HOK := Lib.hid (HNO.out (by unfold okR; rw [hd1', hd2']; simp <;> omega))
                clear HNO HYES
                go_wp2_with fail
                go_ret
                exact ⟨by rw [HOK.out]; rfl, HB1.out⟩
        · by_cases hl1 : r.is.length = 1
          · have hl0 : 0 < r.is.length := by omega
            have hd1 : ((r.is.length : Int) == 1) = true := by simp; omega
            have hd1' : (r.is.length == 1) = true := by simp; omega
            have hd2' : (r.is.length == 2) = false := by simp; omega
            clear hl1
            have HOK := Lib.hid (HNO.out (by unfold okR; rw [hd1', hd2']; simp <;> omega))
            clear HNO HYES
            go_wp2_with fail
            go_ret
            exact ⟨by rw [HOK.out]; rfl, HB1.out⟩
          · by_cases hl2 : r.is.length = 2
            · have hl0 : 0 < r.is.length := by omega
              have hl1'' : 1 < r.is.length := by omega
              have hd1 : ((r.is.length : Int) == 1) = false := by simp; omega
              have hd1' : (r.is.length == 1) = false := by simp; omega
              have hd2 : ((r.is.length : Int) == 2) = true := by simp; omega
              have hd2' : (r.is.length == 2) = true := by simp; omega
              clear hl1 hl2
              have HOK := Lib.hid (HNO.out (by unfold okR; rw [hd1', hd2']; simp <;> omega))
              clear HNO HYES
              go_wp2_with fail
              go_ret
              exact ⟨by rw [HOK.out]; rfl, HB1.out⟩
            · have hd1 : ((r.is.length : Int) == 1) = false := by simp; omega
              have hd1' : (r.is.length == 1) = false := by simp; omega
              have hd2 : ((r.is.length : Int) == 2) = false := by simp; omega
              have hd2' : (r.is.length == 2) = false := by simp; omega
              clear hl1 hl2
              have HOK := Lib.hid (HNO.out (by unfold okR; rw [hd1', hd2']; simp <;> omega))
              clear HNO HYES
              go_wp2_with fail
              go_ret
              exact ⟨by rw [HOK.out]; rfl, HB1.out⟩
      · obtain rfl : k = n := by omega
        have HC2 := Lib.hid (show chk L = 0 by
          rw [HC.out, if_pos]
          rwa [List.take_of_length_le (by omega)] at hall)
        have HB := Lib.hid hB; clear hB hall
        go_wp2_with fail
        go_ret
        exact ⟨by rw [HC2.out]; rfl, HB.out⟩

set_option maxHeartbeats 400000 in
theorem Has_no (k : Int) (hk : k ≠ 0) (s : List UInt8) (w : World) (A : Option Addr) (m c : Nat) (hN : Calls Tryd.prog 9 #[.slice A m c, S s] w fun e w' => e = .returned (.tuple #[S [], errV k]) ∧ Below w.heap.size w w') :
    Calls Tryd.prog 10 #[.slice A m c, S s] w fun e w' => e = .returned (.tuple #[.bool false, errV k]) ∧ Below w.heap.size w w' := by
  rw [err_ne hk] at hN ⊢
  have HN := Lib.hid hN; clear hN hk
  go_enter Tryd.func10, Tryd.ntmps10
  go_wp2_with fail
  refine HN.out.mono ?_
  rintro e w1 ⟨rfl, hb1⟩
  have HB1 := Lib.hid hb1; clear hb1
  go_wp2_with fail
  go_ret2
  exact ⟨rfl, HB1.out⟩
end Go.Proofs.YtlbiklhndcamhaaDoor
