/- The law BookOpens: its walk. Condition: as of Open, and errors.errorType. -/
import Derived.Test.YteoofkinmilckaaGreatDoorBookOd
import Derived.Test.YteoofkinmilckaaGreatDoorBookE
import Derived.Test.YteoofkinmilckaaGreatDoorAs
namespace Go.Proofs.YteoofkinmilckaaGreatDoor
open Go.RowKit Go.Shelf IntWalk
attribute [local go_sem] byte_at str_app
attribute [local go_sem ↓] Go.wp_at_zero Go.wp_at_succ

set_option maxRecDepth 100000 in
set_option maxHeartbeats 2000000 in
theorem open_long (T : List UInt8) (w : World) (hl : 2000 < T.length) (h9 : T.length ≤ 9223372036854775807) :
    Calls Tryz.prog 11 #[S T] w fun e w' => e = .returned (.tuple #[.pointer none, .int .i64 0, errV 4]) ∧ Below w.heap.size w w' := by
  have h' : (2000 : Int) < (T.length : Int) := by omega
  refine (callsIn_wide (n := 3)).1 ?_
  refine callsIn_of_wp_marks Tryz.func11 rfl trivial ?_ rfl
  simp only [Tryz.ntmps11, List.size_toArray, List.length_cons, List.length_nil, Nat.reduceAdd, Nat.reduceSub, Array.replicate_succ, Array.replicate_zero, List.push_toArray, List.append_toArray, List.nil_append, List.cons_append]
  gi_wp2_with fail
  have hb : Below w.heap.size w (((w.alloc (.cells #[.pointer none] 26)).alloc (.cells #[.int .i64 0] 3)).alloc (.cells #[errV 4] 28)) := (((Below.refl _ w).alloc (Nat.le_refl _) _).alloc (by simp) _).alloc (by simp; omega) _
  have key : ∀ (W : World) (tmps : Array Value), tmps.getD 2 undef = .pointer (some ⟨w.heap.size, 0, none⟩) → tmps.getD 3 undef = .pointer (some ⟨w.heap.size + 1, 0, none⟩) → tmps.getD 4 undef = .pointer (some ⟨w.heap.size + 1 + 1, 0, none⟩) → W.cell? ⟨w.heap.size, 0, none⟩ = some (.pointer none) → W.cell? ⟨w.heap.size + 1, 0, none⟩ = some (.int .i64 0) → W.cell? ⟨w.heap.size + 1 + 1, 0, none⟩ = some (errV 4) → (results Tryz.f11 tmps).run Tryz.prog W = .ok (.tuple #[.pointer none, .int .i64 0, errV 4]) W := by
    intro W tmps t2 t3 t4 e1 e2 e3
    have t2' : tmps[2]?.getD undef = .pointer (some ⟨w.heap.size, 0, none⟩) := by simpa using t2
    have t3' : tmps[3]?.getD undef = .pointer (some ⟨w.heap.size + 1, 0, none⟩) := by simpa using t3
    have t4' : tmps[4]?.getD undef = .pointer (some ⟨w.heap.size + 1 + 1, 0, none⟩) := by simpa using t4
    simp [results, Tryz.f11, go_sem, e1, e2, e3, t2', t3', t4']
  refine ⟨.tuple #[.pointer none, .int .i64 0, errV 4], key _ _ rfl rfl rfl ?_ ?_ ?_, rfl, hb⟩
  · rw [Lib.cell_of_heap (cs := #[.pointer none]) (by rw [Lib.alloc_old _ _ _ (by simp; omega), old_at])]; rfl
  · rw [Lib.cell_of_heap (cs := #[.int .i64 0]) (by rw [Lib.alloc_old _ _ _ (by simp), new_at])]; rfl
  · have := heap_alloc_new ((w.alloc (.cells #[.pointer none] 26)).alloc (.cells #[.int .i64 0] 3)) (.cells #[errV 4] 28)
    rw [World.size_alloc, World.size_alloc] at this
    exact (Lib.cell_of_heap this 0).trans rfl

set_option maxRecDepth 100000 in
set_option maxHeartbeats 8000000 in
theorem bookOpens_walk (w : World) (T : List UInt8) (h9 : T.length ≤ 9223372036854775807) (ht : TG w) (hm : ML w) (he : EV w) (hg : HG w) :
    Calls Tryz.prog 3 #[S T] w fun e w' => e = .returned (.bool true) ∧ Below w.heap.size w w' := by
  have HT := Lib.hid ht; have HM := Lib.hid hm; have HE := Lib.hid he; have HG0 := Lib.hid hg
  clear ht hm he hg
  have HRO := Lib.hid (openR_any T w h9)
  by_cases hl : 2000 < T.length
  · have hR : openR T = (eBS, 0, 4) := if_pos hl
    rw [hR] at HRO
    have HOL := Lib.hid (fun W => open_long T W hl h9)
    clear hR hl
    go_enter Tryz.func3, Tryz.ntmps3
    go_wp2_with fail
    refine HRO.out.mono ?_
    rintro e w1 ⟨rfl, hb1⟩
    have HB1 := Lib.hid (hb1.alloc hb1.size (bObj eBS))
    clear hb1
    go_wp2_with fail
    generalize w1.alloc (bObj eBS) = w2 at *
    refine (HOL.out _).mono ?_
    rintro e w3 ⟨rfl, hb3⟩
    have HB3 := Lib.hid (HB1.out.trans (hb3.mono HB1.out.size))
    have HER := Lib.hid (error_any 4 4 w3 (HG0.out.below HB3.out (Nat.le_refl _)))
    clear hb3
    go_wp2_with fail
    refine HER.out.mono ?_
    rw [beq_self_eq_true]
    rintro e w4 ⟨rfl, hb4⟩
    have HB4 := Lib.hid (HB3.out.trans (hb4.mono HB3.out.size))
    clear hb4
    go_wp2_with fail
    go_ret
    exact ⟨rfl, HB4.out⟩
  have HR : Hid (openR T = openD (cutB 10 T).dropLast eBS 0) := Lib.hid (if_neg hl)
  have HOD := Lib.hid (fun (W W' : World) (e : Ending) (h : OpenSays W T e W') => opens_doc h)
  have HOG := Lib.hid (fun W (h : Below w.heap.size w W) => open_gen T W (by omega) (HT.out.below h (Nat.le_refl _)) (HM.out.below h HM.out.lt) (HE.out.below h HE.out.lt.1 HE.out.lt.2))
  rw [HR.out] at HRO
  generalize openD (cutB 10 T).dropLast eBS 0 = R at *
  obtain ⟨s, m, k⟩ := R
  clear HR
  go_enter Tryz.func3, Tryz.ntmps3
  go_wp2_with fail
  refine HRO.out.mono ?_
  rintro e w1 ⟨rfl, hb1⟩
  have HB1 := Lib.hid (hb1.alloc hb1.size (bObj s))
  have hx2 := heap_alloc_new w1 (bObj s)
  have hg2 : w1.heap.size < (w1.alloc (bObj s)).heap.size := by simp
  clear hb1
  go_wp2_with fail
  generalize w1.alloc (bObj s) = w2 at *
  generalize w1.heap.size = g at *
  refine (HOG.out _ HB1.out).mono ?_
  rintro e w3 ⟨hos, hb3⟩
  have HB3 := Lib.hid (HB1.out.trans (hb3.mono HB1.out.size))
  have hx3 := (hb3.block g hg2).trans hx2
  have hsz3 := hb3.size
  have HX3 := Lib.hid hx3
  obtain ⟨c0, c1, c2, _, _, _⟩ := three_at hx3
  clear hb3 hx2 hx3
  rcases HOD.out _ _ _ hos with ⟨h0, b, rfl, hbk, hsm⟩ | ⟨h0, rfl⟩
  · have h0' : k = 0 := h0
    subst h0'
    have hbk : Bks nF w2.heap.size b s w3 := hbk
    clear hos h0
    have hB0 : w2.heap.size ≤ w3.heap.size := hsz3
    have HBK := Lib.hid hbk
    go_upto_region 5 with fail
    go_region_with (first
      | (refine (text_all nF w2.heap.size b s.now s.txt s.many w3.drew (HBK.out.below (Below.drew (Below.refl _ w3))) hB0).mono ?_; rintro e w8 ⟨rfl, hk8, hb8⟩; have hx8 := (hb8.block g hg2).trans HX3.out; obtain ⟨d0, d1, d2, _, _, _⟩ := three_at hx8)
      | (refine (now_any _ _ _ _ _ _ _ hk8).mono ?_; rintro e w9 ⟨rfl, rfl⟩))
    all_goals
      have HB8 := Lib.hid ((HB3.out.drew).trans (Below.mono hb8 HB1.out.size))
      clear hb8 hk8
      go_wp2_with fail
      go_ret
      exact ⟨rfl, HB8.out⟩
  · have h0' : k ≠ 0 := h0
    have q1 : (k == 0) = false := by simpa using h0'
    have q2 : (k != 0) = true := by simpa using h0'
    have HER := Lib.hid (error_any k k w3 (HG0.out.below HB3.out (Nat.le_refl _)))
    clear hos h0
    go_wp2_with fail
    refine HER.out.mono ?_
    rw [beq_self_eq_true]
    rintro e w4 ⟨rfl, hb4⟩
    have HB4 := Lib.hid (HB3.out.trans (hb4.mono HB3.out.size))
    clear hb4
    go_wp2_with fail
    go_ret
    exact ⟨rfl, HB4.out⟩
end Go.Proofs.YteoofkinmilckaaGreatDoor
