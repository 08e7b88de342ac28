/- package edit's Far, at texts that are not too long: one row of numbers, written in place. No condition. -/
import Derived.Test.YtgmmlblefealjaaDoorDeskF
import Derived.Test.YtgmmlblefealjaaDoorEdM
import Derived.Laws.Cover1
namespace Go.Proofs.YtgmmlblefealjaaDoor
open Go.RowKit IntWalk
attribute [local go_sem] byte_at str_app
attribute [local go_sem ↓] Go.wp_at_zero Go.wp_at_succ

theorem dd_le (a b : List UInt8) : ∀ i j, dd a b i j ≤ i + j
  | 0, j => by unfold dd; omega
  | i + 1, 0 => by unfold dd; omega
  | i + 1, j + 1 => by
    have h1 := dd_le a b i j
    unfold dd
    split
    · omega
    · omega
theorem dd_row0 (a b : List UInt8) (j : Nat) : dd a b 0 j = j := by unfold dd; rfl
theorem dd_col0 (a b : List UInt8) (i : Nat) : dd a b i 0 = i := by cases i <;> (unfold dd; rfl)
theorem dd_eq {a b : List UInt8} {i j : Nat} (h : bu a i = bu b j) : dd a b (i + 1) (j + 1) = dd a b i j := by rw [dd, if_pos h]
theorem dd_ne {a b : List UInt8} {i j : Nat} (h : ¬ bu a i = bu b j) : dd a b (i + 1) (j + 1) = 1 + min (min (dd a b i j) (dd a b (i + 1) j)) (dd a b i (j + 1)) := by rw [dd, if_neg h]
/-- The row while the (i+1)-th sign is being looked at: up to cell j the new one, behind it the old one. -/
def Rw (a b : List UInt8) (i j : Nat) (E : List Int) : Prop := E.length = b.length + 1 ∧ ∀ k, k ≤ b.length → gi E k = ((if k ≤ j then dd a b (i + 1) k else dd a b i k : Nat) : Int)
def Ro (a b : List UInt8) (i : Nat) (E : List Int) : Prop := E.length = b.length + 1 ∧ ∀ k, k ≤ b.length → gi E k = ((dd a b i k : Nat) : Int)
theorem Ro.start {a b : List UInt8} {i : Nat} {E : List Int} (h : Ro a b i E) : Rw a b i 0 (E.set 0 ((i : Int) + 1)) := by
  refine ⟨by rw [List.length_set]; exact h.1, fun k hk => ?_⟩
  rcases Nat.eq_zero_or_pos k with rfl | hk0
  · rw [gi_set_self (by rw [h.1]; omega), if_pos (Nat.le_refl _), dd_col0]; rfl
  · rw [gi_set_ne (by omega), if_neg (by omega)]; exact h.2 k hk
theorem Rw.step {a b : List UInt8} {i j v : Nat} {E : List Int} (h : Rw a b i j E) (hj : j < b.length) (hv : v = dd a b (i + 1) (j + 1)) : Rw a b i (j + 1) (E.set (j + 1) (v : Int)) := by
  refine ⟨by rw [List.length_set]; exact h.1, fun k hk => ?_⟩
  by_cases he : k = j + 1
  · subst he
    rw [gi_set_self (by rw [h.1]; omega), if_pos (Nat.le_refl _), hv]
  · rw [gi_set_ne (by omega), h.2 k hk]
    by_cases hkj : k ≤ j
    · rw [if_pos hkj, if_pos (by omega)]
    · rw [if_neg hkj, if_neg (by omega)]
theorem Rw.fin {a b : List UInt8} {i : Nat} {E : List Int} (h : Rw a b i b.length E) : Ro a b (i + 1) E :=
  ⟨h.1, fun k hk => by rw [h.2 k hk, if_pos hk]⟩
theorem Rw.old {a b : List UInt8} {i j : Nat} {E : List Int} (h : Rw a b i j E) (hj : j < b.length) : gi E (j + 1) = ((dd a b i (j + 1) : Nat) : Int) := by
  rw [h.2 _ (by omega), if_neg (by omega)]
theorem Rw.new {a b : List UInt8} {i j : Nat} {E : List Int} (h : Rw a b i j E) (hj : j ≤ b.length) : gi E j = ((dd a b (i + 1) j : Nat) : Int) := by
  rw [h.2 _ hj, if_pos (Nat.le_refl _)]
theorem min3 {P : Program} {w : World} (ts : Array TypeId) (t : TypeId) (k k' k'' : IntKind) (x y z : Nat) :
    (Builtin.min_ ts t #[.int k (x : Int), .int k' (y : Int), .int k'' (z : Int)]).run P w = .ok (.int k ((min (min x y) z : Nat) : Int)) w := by
  rw [run_min_int3]
  congr 2
  split <;> split <;> omega
theorem row_cell {W : World} {g k v : Nat} {E : List Int} (hb : Blk W g 3 (E.map (Value.int .i64))) (hk : k < E.length) (he : gi E k = (v : Int)) : W.cell? ⟨g, k, none⟩ = some (.int .i64 (v : Int)) := edge_cell hb hk he

set_option maxRecDepth 100000 in
set_option maxHeartbeats 4000000 in
theorem far_any (a b : List UInt8) (w : World) (ha24 : a.length ≤ 24) (hb24 : b.length ≤ 24) :
    Calls Tryd.prog 7 #[S a, S b] w fun e w' => e = .returned (.tuple #[.int .i64 (ed a b : Int), .nilIface]) ∧ Below w.heap.size w w' := by
  obtain ⟨i0, hi0, hz0, hz1, hz2⟩ := info_parts info_intF
  have hmk : ∀ W, (Instr.makeSlice 28 (.int .i64 ((b.length : Int) + 1)) (.int .i64 ((b.length : Int) + 1))).run Tryd.prog W = .ok (.slice (some ⟨W.heap.size, 0, none⟩) (b.length + 1) (b.length + 1)) (W.alloc (.cells (List.replicate (b.length + 1) (.int .i64 0)).toArray 3)) := fun W => by
    have := mk_ints (P := Tryd.prog) Tryd.underlying28 hi0 hz0 hz1 rfl (by omega) (b.length + 1) (by omega) W
    rwa [show ((b.length + 1 : Nat) : Int) = (b.length : Int) + 1 by omega] at this
  have HL := Lib.hid (long2_no 24 a b (w.alloc (.cells #[S a, S b] 9)) w.heap.size 0 (cell_of_row _ _ 0 #[S a, S b] 9 (0, 0) (heap_alloc_new w _)) (cell_of_row _ _ 1 #[S a, S b] 9 (0, 0) (heap_alloc_new w _)) (by omega) (by omega))
  have hl1 : IntKind.i64.wrap ((b.length : Int) + 1) = (b.length : Int) + 1 := i64_in _ (by omega)
  go_enter Tryd.func7, Tryd.ntmps7
  go_wp2_with fail
  refine HL.out.mono ?_
  rintro e w' ⟨rfl, rfl⟩
  rw [show errV 0 = .nilIface from rfl]
  go_wp2_with fail
  have HB0 : Hid (Below w.heap.size w ((w.alloc (.cells #[S a, S b] 9)).alloc (.cells (Array.replicate (b.length + 1) (.int .i64 0)) 3))) := Lib.hid (((Below.refl _ w).alloc (Nat.le_refl _) _).alloc (by simp) _)
  have HG0 : Hid (Blk ((w.alloc (.cells #[S a, S b] 9)).alloc (.cells (Array.replicate (b.length + 1) (.int .i64 0)) 3)) (w.heap.size + 1) 3 (((List.replicate (b.length + 1) 0).map (Value.int .i64)))) := Lib.hid (by
    have := Blk.new (w.alloc (.cells #[S a, S b] 9)) 3 (List.replicate (b.length + 1) (.int .i64 0))
    rw [World.size_alloc, List.toArray_replicate] at this
    rw [List.map_replicate]; exact this)
  generalize (w.alloc (.cells #[S a, S b] 9)).alloc (.cells (Array.replicate (b.length + 1) (.int .i64 0)) 3) = w1 at *
  obtain ⟨g, hg⟩ : ∃ g, g = w.heap.size + 1 := ⟨_, rfl⟩
  rw [← hg] at HG0 ⊢
  have HGE : Hid (w.heap.size ≤ g) := Lib.hid (by omega)
  clear hg hmk HL
  go_loopg [26] (b.length + 1) (fun f iv wr => ∃ (j : Nat) (E : List Int), j + f = b.length + 1 ∧ iv = .int .i64 (j : Int) ∧ Hid (E.length = b.length + 1 ∧ ∀ k, k < j → gi E k = (k : Int)) ∧ Hid (Blk wr g 3 (E.map (Value.int .i64))) ∧ Hid (Below w.heap.size w wr))
  case atStart =>
    exact ⟨0, List.replicate (b.length + 1) 0, by omega, rfl, Lib.hid ⟨by simp, fun k hk => absurd hk (by omega)⟩, HG0, HB0⟩
  case round =>
    obtain ⟨j, E, hjf, rfl, HE, HBK, HB⟩ := hrel
    clear HG0 HB0
    by_cases hlt : j < b.length + 1
    · obtain ⟨f, rfl⟩ : ∃ f, gk = f + 1 := ⟨gk - 1, by omega⟩
      have s1 : wr.cell? ⟨g, j, none⟩ = some (.int .i64 (gi E j)) := by
        rw [HBK.out.cell, List.getElem?_map, List.getElem?_eq_getElem (by rw [HE.out.1]; omega), ← gi_eq (by rw [HE.out.1]; omega)]; rfl
      have s2 : wr.frozen? ⟨g, j, none⟩ = false := HBK.out.frozen _
      have p1 : (j : Int) < (b.length : Int) + 1 := by omega
      have p2 : IntKind.i64.wrap ((j : Int) + 1) = (j : Int) + 1 := i64_in _ (by omega)
      go_wp2_with fail
      go_roundg f
      case measure => omega
      case rel =>
        refine ⟨j + 1, E.set j (j : Int), by omega, by simp, Lib.hid ⟨by rw [List.length_set]; exact HE.out.1, fun k hk => ?_⟩, Lib.hid (blk_set HBK.out), Lib.hid (HB.out.setCell (p := ⟨g, j, none⟩) HGE.out _)⟩
        rcases Nat.lt_or_ge k j with hl | hl
        · rw [gi_set_ne (by omega)]; exact HE.out.2 k hl
        · obtain rfl : k = j := by omega
          rw [gi_set_self (by rw [HE.out.1]; omega)]
    · obtain rfl : j = b.length + 1 := by omega
      have HR : Hid (Ro a b 0 E) := Lib.hid ⟨HE.out.1, fun k hk => by rw [HE.out.2 k (by omega), dd_row0]⟩
      clear HE hjf
      have p1 : ¬ (((b.length + 1 : Nat) : Int) < (b.length : Int) + 1) := by omega
      go_wp2_with fail
      go_loopg [36] a.length (fun f iv wr => ∃ (i : Nat) (E : List Int), i + f = a.length ∧ iv = .int .i64 (i : Int) ∧ Hid (Ro a b i E) ∧ Hid (Blk wr g 3 (E.map (Value.int .i64))) ∧ Hid (Below w.heap.size w wr))
      case atStart => exact ⟨0, E, by omega, rfl, HR, HBK, HB⟩
      case round =>
        clear HR HBK HB
        obtain ⟨i, E, hif, rfl, HR, HBK, HB⟩ := hrel
        by_cases hlt : i < a.length
        · obtain ⟨f, rfl⟩ : ∃ f, gk = f + 1 := ⟨gk - 1, by omega⟩
          have s1 : wr.cell? ⟨g, 0, none⟩ = some (.int .i64 (i : Int)) := row_cell HBK.out (by rw [HR.out.1]; omega) (by rw [HR.out.2 0 (by omega), dd_col0])
          have s2 : wr.frozen? ⟨g, 0, none⟩ = false := HBK.out.frozen _
          have p2 : (i : Int) < (a.length : Int) := by omega
          have p3 : IntKind.i64.wrap ((i : Int) + 1) = (i : Int) + 1 := i64_in _ (by omega)
          have p4 : (0 : Int) < (b.length : Int) + 1 := by omega
          have HS := Lib.hid HR.out.start
          go_wp2_with fail
          have HBK2 := Lib.hid (blk_set (k := 0) (v := (i : Int) + 1) HBK.out)
          have HB2 := Lib.hid (HB.out.setCell (p := ⟨g, 0, none⟩) HGE.out (.int .i64 ((i : Int) + 1)))
          clear HBK HB HR s1 s2
          generalize E.set 0 ((i : Int) + 1) = E2 at *
          generalize wr.setCell ⟨g, 0, none⟩ (.int .i64 ((i : Int) + 1)) = w2 at *
          go_loopg [10, 48] b.length (fun q lv jv wx => ∃ (j : Nat) (E : List Int), j + q = b.length ∧ lv = .int .i64 (dd a b i j : Int) ∧ jv = .int .i64 (j : Int) ∧ Hid (Rw a b i j E) ∧ Hid (Blk wx g 3 (E.map (Value.int .i64))) ∧ Hid (Below w.heap.size w wx))
          case atStart => exact ⟨0, E2, by omega, by rw [dd_col0], rfl, HS, HBK2, HB2⟩
          case round =>
            clear HS HBK2 HB2
            obtain ⟨j, E, hjq, rfl, rfl, HR, HBK, HB⟩ := hrel
            by_cases hlj : j < b.length
            · obtain ⟨q, rfl⟩ : ∃ q, gk = q + 1 := ⟨gk - 1, by omega⟩
              have s1 : wr.cell? ⟨g, j, none⟩ = some (.int .i64 (dd a b (i + 1) j : Int)) := row_cell HBK.out (by rw [HR.out.1]; omega) (HR.out.new (by omega))
              have s3 : wr.cell? ⟨g, j + 1, none⟩ = some (.int .i64 (dd a b i (j + 1) : Int)) := row_cell HBK.out (by rw [HR.out.1]; omega) (HR.out.old hlj)
              have s2 : wr.frozen? ⟨g, j + 1, none⟩ = false := HBK.out.frozen _
              have p5 : (j : Int) < (b.length : Int) := by omega
              have p6 : IntKind.i64.wrap ((j : Int) + 1) = (j : Int) + 1 := i64_in _ (by omega)
              have p7 : (j : Int) < (b.length : Int) + 1 := by omega
              have p8 : (j : Int) + 1 < (b.length : Int) + 1 := by omega
              have p9 : (0 : Int) ≤ (j : Int) + 1 := by omega
              have p10 : ((j : Int) + 1).toNat = j + 1 := by omega
              by_cases hb : bu a i = bu b j
              · have q1 : (((bu a i).toNat : Int) != ((bu b j).toNat : Int)) = false := by rw [hb]; simp
                have HV := Lib.hid (dd_eq (a := a) (b := b) (i := i) (j := j) hb)
                have HS := Lib.hid (HR.out.step hlj HV.out.symm)
                clear hb HV HR
                go_wp2_with fail
                go_quiet (fail)
                go_wp2_with fail
                go_roundg q
                case measure => omega
                case rel => exact ⟨j + 1, E.set (j + 1) (dd a b i j : Int), by omega, rfl, by simp, HS, Lib.hid (blk_set HBK.out), Lib.hid ((below_drewN HB.out _).setCell (p := ⟨g, j + 1, none⟩) HGE.out _)⟩
              · have q1 : (((bu a i).toNat : Int) != ((bu b j).toNat : Int)) = true := by simp; intro h; exact hb (UInt8.toNat.inj (by omega))
                have HV := Lib.hid (dd_ne (a := a) (b := b) (i := i) (j := j) hb)
                have hm := fun W ts t => min3 (P := Tryd.prog) (w := W) ts t .i64 .i64 .i64 (dd a b i j) (dd a b (i + 1) j) (dd a b i (j + 1))
                have hd := dd_le a b i j
                have hw : IntKind.i64.wrap (1 + ((min (min (dd a b i j) (dd a b (i + 1) j)) (dd a b i (j + 1)) : Nat) : Int)) = 1 + ((min (min (dd a b i j) (dd a b (i + 1) j)) (dd a b i (j + 1)) : Nat) : Int) := i64_in _ (by omega)
                generalize hmv : min (min (dd a b i j) (dd a b (i + 1) j)) (dd a b i (j + 1)) = v at *
                have HS := Lib.hid (HR.out.step (v := 1 + v) hlj HV.out.symm)
                have HE2 : Hid ((1 : Int) + (v : Int) = ((1 + v : Nat) : Int)) := Lib.hid (by omega)
                clear hb HV HR hmv hd
                go_wp2_with fail
                go_quiet (fail)
                go_wp2_with fail
                go_quiet (fail)
                go_wp2_with fail
                rw [HE2.out]
                go_roundg q
                case measure => omega
                case rel => exact ⟨j + 1, E.set (j + 1) ((1 + v : Nat) : Int), by omega, rfl, by simp, HS, Lib.hid (blk_set HBK.out), Lib.hid ((below_drewN HB.out _).setCell (p := ⟨g, j + 1, none⟩) HGE.out _)⟩
            · obtain rfl : j = b.length := by omega
              have HF := Lib.hid HR.out.fin
              have p5 : ¬ (b.length : Int) < (b.length : Int) := by omega
              clear HR
              go_wp2_with fail
              go_roundg f
              case measure => omega
              case rel => exact ⟨i + 1, E, by omega, by simp, HF, HBK, HB⟩
        · obtain rfl : i = a.length := by omega
          have p5 : ¬ (a.length : Int) < (a.length : Int) := by omega
          have s1 : wr.cell? ⟨g, b.length, none⟩ = some (.int .i64 (ed a b : Int)) := row_cell HBK.out (by rw [HR.out.1]; omega) (by rw [HR.out.2 _ (Nat.le_refl _)]; rfl)
          have p6 : (b.length : Int) < (b.length : Int) + 1 := by omega
          clear HR
          go_wp2_with fail
          go_ret2
          exact ⟨rfl, HB.out⟩
end Go.Proofs.YtgmmlblefealjaaDoor
