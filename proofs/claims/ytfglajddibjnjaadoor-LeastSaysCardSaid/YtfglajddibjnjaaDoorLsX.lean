/- The laws' closed fact of least, walked. No condition. -/
import Derived.Test.YtfglajddibjnjaaDoorLsR
import Derived.Test.YtfglajddibjnjaaDoorLsV
namespace Go.Proofs.YtfglajddibjnjaaDoor
open Go.RowKit IntWalk
set_option linter.unusedSimpArgs false
attribute [local go_sem] byte_at str_app
attribute [local go_sem ↓] Go.wp_at_zero Go.wp_at_succ

theorem ints_blk {w : World} {g B : Nat} {t : TypeId} {L : List Int} (h : Blk w g t (L.map (Value.int .i64))) (hg : g < B) : Ints w B (some ⟨g, 0, none⟩) L.length L :=
  ⟨rfl, fun _ => ⟨g, 0, rfl, hg, fun j hj => by rw [Nat.zero_add, h.cell j, List.getElem?_map, List.getElem?_eq_getElem hj, gi_eq hj]; rfl⟩⟩
theorem bls_blk {w : World} {g B : Nat} {t : TypeId} {L : List Bool} (h : Blk w g t (L.map Value.bool)) (hg : g < B) : Bls w B (some ⟨g, 0, none⟩) L.length L :=
  ⟨rfl, fun _ => ⟨g, 0, rfl, hg, fun j hj => by rw [Nat.zero_add, h.cell j, List.getElem?_map, List.getElem?_eq_getElem hj, bo_eq hj]; rfl⟩⟩
theorem fm_mem (w : World) (ti tr tb : TypeId) :
    MacW (((((w.alloc (.cells #[.int .i64 1] ti)).alloc (.cells #[.int .i64 2] ti)).alloc (.cells #[.int .i64 1] ti)).alloc (.cells #[.slice (some ⟨w.heap.size, 0, none⟩) 1 1, .slice (some ⟨w.heap.size + 1, 0, none⟩) 1 1, .slice (some ⟨w.heap.size + 1 + 1, 0, none⟩) 1 1] tr)).alloc (.cells #[.bool false, .bool true, .bool true] tb))
      (w.heap.size + 5) (some ⟨w.heap.size + 1 + 1 + 1, 0, none⟩) 3 (some ⟨w.heap.size + 1 + 1 + 1 + 1, 0, none⟩) 3 FM := by
  have b0 := Blk.new w ti [.int .i64 1]
  generalize hw1 : w.alloc (.cells #[.int .i64 1] ti) = w1 at *
  have z1 : w1.heap.size = w.heap.size + 1 := by rw [← hw1]; simp
  have b1 := Blk.new w1 ti [.int .i64 2]
  generalize hw2 : w1.alloc (.cells #[.int .i64 2] ti) = w2 at *
  have z2 : w2.heap.size = w.heap.size + 1 + 1 := by rw [← hw2]; simp [z1]
  have b2 := Blk.new w2 ti [.int .i64 1]
  generalize hw3 : w2.alloc (.cells #[.int .i64 1] ti) = w3 at *
  have z3 : w3.heap.size = w.heap.size + 1 + 1 + 1 := by rw [← hw3]; simp [z2]
  have b3 := Blk.new w3 tr [.slice (some ⟨w.heap.size, 0, none⟩) 1 1, .slice (some ⟨w.heap.size + 1, 0, none⟩) 1 1, .slice (some ⟨w.heap.size + 1 + 1, 0, none⟩) 1 1]
  generalize hw4 : w3.alloc (.cells #[.slice (some ⟨w.heap.size, 0, none⟩) 1 1, .slice (some ⟨w.heap.size + 1, 0, none⟩) 1 1, .slice (some ⟨w.heap.size + 1 + 1, 0, none⟩) 1 1] tr) = w4 at *
  have z4 : w4.heap.size = w.heap.size + 1 + 1 + 1 + 1 := by rw [← hw4]; simp [z3]
  have b4 := Blk.new w4 tb [.bool false, .bool true, .bool true]
  have b0' : Blk w4 w.heap.size ti [.int .i64 1] := by
    rw [← hw4]; refine Blk.alloc ?_ _; rw [← hw3]; refine Blk.alloc ?_ _; rw [← hw2]; exact Blk.alloc (by rw [← hw1]; exact Blk.new w ti _) _
  have b1' : Blk w4 (w.heap.size + 1) ti [.int .i64 2] := by
    rw [← hw4]; refine Blk.alloc ?_ _; rw [← hw3]; refine Blk.alloc ?_ _; rw [← hw2, ← z1]; exact Blk.new w1 ti _
  have b2' : Blk w4 (w.heap.size + 1 + 1) ti [.int .i64 1] := by
    rw [← hw4]; refine Blk.alloc ?_ _; rw [← hw3, ← z2]; exact Blk.new w2 ti _
  have b3' : Blk w4 (w.heap.size + 1 + 1 + 1) tr [.slice (some ⟨w.heap.size, 0, none⟩) 1 1, .slice (some ⟨w.heap.size + 1, 0, none⟩) 1 1, .slice (some ⟨w.heap.size + 1 + 1, 0, none⟩) 1 1] := by
    rw [← hw4, ← z3]; exact Blk.new w3 tr _
  refine ⟨⟨rfl, fun _ => ⟨_, 0, rfl, by omega, fun j hj => ?_⟩⟩, ?_⟩
  · rw [Nat.zero_add, (b3'.alloc _).cell j]
    match j, hj with
    | 0, _ => exact ⟨_, _, _, rfl, ints_blk (L := [1]) (b0'.alloc _) (by omega)⟩
    | 1, _ => exact ⟨_, _, _, rfl, ints_blk (L := [2]) (b1'.alloc _) (by omega)⟩
    | 2, _ => exact ⟨_, _, _, rfl, ints_blk (L := [1]) (b2'.alloc _) (by omega)⟩
  · exact bls_blk (L := [false, true, true]) (by rw [← z4]; exact b4) (by omega)

theorem rows2_mem (w : World) (ti tr : TypeId) :
    Rws (((w.alloc (.cells #[.int .i64 1] ti)).alloc (.cells #[.int .i64 1] ti)).alloc (.cells #[.slice (some ⟨w.heap.size, 0, none⟩) 1 1, .slice (some ⟨w.heap.size + 1, 0, none⟩) 1 1] tr))
      (w.heap.size + 3) (some ⟨w.heap.size + 1 + 1, 0, none⟩) 2 [[1], [1]] := by
  generalize hw1 : w.alloc (.cells #[.int .i64 1] ti) = w1 at *
  have z1 : w1.heap.size = w.heap.size + 1 := by rw [← hw1]; simp
  generalize hw2 : w1.alloc (.cells #[.int .i64 1] ti) = w2 at *
  have z2 : w2.heap.size = w.heap.size + 1 + 1 := by rw [← hw2]; simp [z1]
  have b0' : Blk w2 w.heap.size ti [.int .i64 1] := by
    rw [← hw2]; exact Blk.alloc (by rw [← hw1]; exact Blk.new w ti _) _
  have b1' : Blk w2 (w.heap.size + 1) ti [.int .i64 1] := by
    rw [← hw2, ← z1]; exact Blk.new w1 ti _
  have b2' := Blk.new w2 tr [.slice (some ⟨w.heap.size, 0, none⟩) 1 1, .slice (some ⟨w.heap.size + 1, 0, none⟩) 1 1]
  rw [z2] at b2'
  refine ⟨rfl, fun _ => ⟨_, 0, rfl, by omega, fun j hj => ?_⟩⟩
  rw [Nat.zero_add, b2'.cell j]
  match j, hj with
  | 0, _ => exact ⟨_, _, _, rfl, ints_blk (L := [1]) (b0'.alloc _) (by omega)⟩
  | 1, _ => exact ⟨_, _, _, rfl, ints_blk (L := [1]) (b1'.alloc _) (by omega)⟩

set_option maxRecDepth 100000 in
set_option maxHeartbeats 2000000 in
theorem fact_any (w : World) :
    Calls Tryd.prog 14 #[] w fun e w' => e = .returned (.bool true) ∧ Below w.heap.size w w' := by
  go_enter Tryd.func14, Tryd.ntmps14
  go_wp2_with fail
  have HM0 := fm_mem w 3 44 4
  have HB0 := Lib.hid (((((Below.refl w.heap.size w).alloc (Nat.le_refl _) (.cells #[.int .i64 1] 3)).alloc (by simp) (.cells #[.int .i64 2] 3)).alloc (by simp; omega) (.cells #[.int .i64 1] 3)).alloc (by simp; omega) (.cells #[.slice (some ⟨w.heap.size, 0, none⟩) 1 1, .slice (some ⟨w.heap.size + 1, 0, none⟩) 1 1, .slice (some ⟨w.heap.size + 1 + 1, 0, none⟩) 1 1] 44) |>.alloc (by simp; omega) (.cells #[.bool false, .bool true, .bool true] 4))
  generalize hw0 : ((((w.alloc (.cells #[.int .i64 1] 3)).alloc (.cells #[.int .i64 2] 3)).alloc (.cells #[.int .i64 1] 3)).alloc (.cells #[.slice (some ⟨w.heap.size, 0, none⟩) 1 1, .slice (some ⟨w.heap.size + 1, 0, none⟩) 1 1, .slice (some ⟨w.heap.size + 1 + 1, 0, none⟩) 1 1] 44)).alloc (.cells #[.bool false, .bool true, .bool true] 4) = w0 at *
  have hz0 : w0.heap.size = w.heap.size + 5 := by rw [← hw0]; simp
  clear hw0
  refine Calls.mono (of_ok FM FM_ok (some ⟨w.heap.size + 1 + 1 + 1, 0, none⟩) (some ⟨w.heap.size + 1 + 1 + 1 + 1, 0, none⟩) 3 3 3 3 (w.heap.size + 5) w0 HM0 (by omega)) ?_
  rw [FM_least]
  rintro e w1 ⟨⟨A1, k1, A2, k2, rfl, hm1⟩, hb1⟩
  have HB1 := Lib.hid (HB0.out.trans (hb1.mono (by omega)))
  have HM1 := Lib.hid (hm1.below ((Below.refl w1.heap.size w1).alloc (Nat.le_refl _) (.cells #[S FM.sg, .slice A1 FL.n k1, .slice A2 FL.n k2] 25)))
  clear HM0 hb1 HB0
  obtain ⟨c0, c1, c2⟩ := mac_cells w1 FM.sg A1 FL.n k1 A2 FL.n k2 25
  have HZ1 : Hid (w.heap.size ≤ w1.heap.size) := Lib.hid HB1.out.size
  go_wp2_with fail
  generalize hw2 : w1.alloc (.cells #[S FM.sg, .slice A1 FL.n k1, .slice A2 FL.n k2] 25) = w2 at *
  have hz2 : w2.heap.size = w1.heap.size + 1 := by rw [← hw2]; simp
  have HB2 : Hid (Below w.heap.size w w2) := Lib.hid (HB1.out.trans (by rw [← hw2]; exact (Below.refl _ w1).alloc HZ1.out _))
  clear hw2
  refine Calls.mono (any_ok FL FL_ok A1 A2 FL.n k1 FL.n k2 w1.heap.size w2 HM1.out (by omega)) ?_
  rintro e w3 ⟨⟨r, hr, rfl⟩, hb3⟩
  obtain rfl := FL_run hr
  clear hr
  have d1 : w3.cell? ⟨w1.heap.size, 1, none⟩ = some (.slice A1 FL.n k1) := (hb3.cell (p := ⟨w1.heap.size, 1, none⟩) (by show w1.heap.size < w2.heap.size; omega)).trans c1
  have d2 : w3.cell? ⟨w1.heap.size, 2, none⟩ = some (.slice A2 FL.n k2) := (hb3.cell (p := ⟨w1.heap.size, 2, none⟩) (by show w1.heap.size < w2.heap.size; omega)).trans c2
  have HZ3 : Hid (w1.heap.size < w3.heap.size) := Lib.hid (by have := hb3.size; omega)
  have HB3 := Lib.hid (HB2.out.trans (hb3.mono HB2.out.size))
  have HM3 := Lib.hid (HM1.out.below (hb3.mono (by omega)))
  have HD := Lib.hid (And.intro d1 d2)
  clear hb3 HM1 HB2 HB1 c0 c1 c2 hz2 hm1
  go_wp2_with fail
  have hr2 := rows2_mem w3 3 44
  have HB4 : Hid (Below w.heap.size w (((w3.alloc (.cells #[.int .i64 1] 3)).alloc (.cells #[.int .i64 1] 3)).alloc (.cells #[.slice (some ⟨w3.heap.size, 0, none⟩) 1 1, .slice (some ⟨w3.heap.size + 1, 0, none⟩) 1 1] 44))) :=
    Lib.hid (((HB3.out.alloc HB3.out.size _).alloc (by simp; have := HB3.out.size; omega) _).alloc (by simp; have := HB3.out.size; omega) _)
  have HL4 : Hid (Below w3.heap.size w3 (((w3.alloc (.cells #[.int .i64 1] 3)).alloc (.cells #[.int .i64 1] 3)).alloc (.cells #[.slice (some ⟨w3.heap.size, 0, none⟩) 1 1, .slice (some ⟨w3.heap.size + 1, 0, none⟩) 1 1] 44))) :=
    Lib.hid ((((Below.refl _ w3).alloc (Nat.le_refl _) _).alloc (by simp) _).alloc (by simp; omega) _)
  generalize hw4 : ((w3.alloc (.cells #[.int .i64 1] 3)).alloc (.cells #[.int .i64 1] 3)).alloc (.cells #[.slice (some ⟨w3.heap.size, 0, none⟩) 1 1, .slice (some ⟨w3.heap.size + 1, 0, none⟩) 1 1] 44) = w4 at *
  have hz4 : w4.heap.size = w3.heap.size + 3 := by rw [← hw4]; simp
  clear hw4 d1 d2
  refine Calls.mono (smR_any A1 (some ⟨w3.heap.size + 1 + 1, 0, none⟩) FL.n 2 k1 2 (w3.heap.size + 3) FL.nx [[1], [1]] w4 ((HM3.out.rows.more (B' := w3.heap.size) (by have := HZ3.out; omega)).below HL4.out |>.more (by omega)) hr2 (by decide) (by decide)) ?_
  rintro e w5 ⟨rfl, q, rfl⟩
  rw [show decide (FL.nx = [[1], [1]]) = true from rfl]
  have e2 : (w4.drewN q).cell? ⟨w1.heap.size, 2, none⟩ = some (.slice A2 FL.n k2) := (HL4.out.cell (p := ⟨w1.heap.size, 2, none⟩) HZ3.out).trans HD.out.2
  clear hr2
  go_wp2_with fail
  have hb5 := Blk.new (w4.drewN q) 4 [.bool false, .bool true]
  rw [show (w4.drewN q).heap.size = w3.heap.size + 3 from hz4] at hb5
  have HB5 := Lib.hid ((below_drewN HB4.out q).alloc (by show w.heap.size ≤ w4.heap.size; exact HB4.out.size) (.cells #[.bool false, .bool true] 4))
  have HL5 := Lib.hid ((below_drewN HL4.out q).alloc (by show w3.heap.size ≤ w4.heap.size; omega) (.cells #[.bool false, .bool true] 4))
  generalize (w4.drewN q).alloc (.cells #[.bool false, .bool true] 4) = w6 at *
  clear e2
  refine Calls.mono (smB_any A2 (some ⟨w3.heap.size + 3, 0, none⟩) FL.n 2 k2 2 (w3.heap.size + 4) FL.tk [false, true] w6 ((HM3.out.tks.more (B' := w3.heap.size) (by have := HZ3.out; omega)).below HL5.out |>.more (by omega)) (bls_blk (L := [false, true]) hb5 (by omega)) (by decide)) ?_
  rintro e w7 ⟨rfl, q2, rfl⟩
  rw [show decide (FL.tk = [false, true]) = true from rfl]
  go_wp2_with fail
  go_ret
  exact ⟨rfl, below_drewN HB5.out q2⟩
end Go.Proofs.YtfglajddibjnjaaDoor
