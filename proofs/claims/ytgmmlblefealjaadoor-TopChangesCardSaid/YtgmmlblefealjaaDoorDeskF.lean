/- package edges' Of, package find's Check and All, at texts that are not too long. No condition. -/
import Derived.Test.YtgmmlblefealjaaDoorBookE
import Derived.Test.YtgmmlblefealjaaDoorDeskK
namespace Go.Proofs.YtgmmlblefealjaaDoor
open Go.RowKit IntWalk
attribute [local go_sem] byte_at str_app
attribute [local go_sem ↓] Go.wp_at_zero Go.wp_at_succ

theorem info_intF : (Tryd.prog.info? 3).map (fun i => (i.zero, i.size, i.bytes)) = some (some (.int .i64 0), 1, 8) := by kernel_rfl
set_option maxHeartbeats 400000 in
theorem long2_a (m : Int) (a : List UInt8) (w : World) (g off : Nat) (hA : w.cell? ⟨g, off, none⟩ = some (S a)) (h : m < (a.length : Int)) :
    Calls Tryd.prog 19 #[.int .i64 m, .slice (some ⟨g, off, none⟩) 2 2] w fun e w' => e = .returned (errV 4) ∧ w = w' := by
  go_enter Tryd.func19, Tryd.ntmps19
  go_wp2_with fail
  refine wp_loop_rounds 2 ?_
  rw [rounds_succ]
  go_wp2_with fail
  go_ret
  exact ⟨rfl, rfl⟩
set_option maxHeartbeats 400000 in
theorem long2_b (m : Int) (a b : List UInt8) (w : World) (g off : Nat) (hA : w.cell? ⟨g, off, none⟩ = some (S a)) (hB : w.cell? ⟨g, off + 1, none⟩ = some (S b)) (h0 : (a.length : Int) ≤ m) (h : m < (b.length : Int)) :
    Calls Tryd.prog 19 #[.int .i64 m, .slice (some ⟨g, off, none⟩) 2 2] w fun e w' => e = .returned (errV 4) ∧ w = w' := by
  go_enter Tryd.func19, Tryd.ntmps19
  go_wp2_with fail
  refine wp_loop_rounds 3 ?_
  rw [rounds_succ]
  go_wp2_with fail
  rw [rounds_succ]
  go_wp2_with fail
  go_ret
  exact ⟨rfl, rfl⟩
set_option maxHeartbeats 400000 in
theorem long2_no (m : Int) (a b : List UInt8) (w : World) (g off : Nat) (hA : w.cell? ⟨g, off, none⟩ = some (S a)) (hB : w.cell? ⟨g, off + 1, none⟩ = some (S b)) (h0 : (a.length : Int) ≤ m) (h : (b.length : Int) ≤ m) :
    Calls Tryd.prog 19 #[.int .i64 m, .slice (some ⟨g, off, none⟩) 2 2] w fun e w' => e = .returned (errV 0) ∧ w = w' := by
  go_enter Tryd.func19, Tryd.ntmps19
  go_wp2_with fail
  refine wp_loop_rounds 3 ?_
  rw [rounds_succ]
  go_wp2_with fail
  rw [rounds_succ]
  go_wp2_with fail
  rw [rounds_succ]
  go_wp2_with fail
  go_ret
  exact ⟨rfl, rfl⟩
/-- What is wrong with a text, and a word. -/
def findE (t x : List UInt8) : Int := if 24 < t.length ∨ 24 < x.length then 4 else if x = [] then 5 else 0
set_option maxHeartbeats 1000000 in
theorem check_any (t x : List UInt8) (w : World) (ht9 : t.length ≤ 9223372036854775807) (hx9 : x.length ≤ 9223372036854775807) :
    Calls Tryd.prog 32 #[S t, S x] w fun e w' => e = .returned (errV (findE t x)) ∧ Below w.heap.size w w' := by
  have HB := Lib.hid ((Below.refl w.heap.size w).alloc (Nat.le_refl _) (.cells #[S t, S x] 9))
  have c0 : (w.alloc (.cells #[S t, S x] 9)).cell? ⟨w.heap.size, 0, none⟩ = some (S t) := cell_of_row _ _ 0 #[S t, S x] 9 (0, 0) (heap_alloc_new w _)
  have c1 : (w.alloc (.cells #[S t, S x] 9)).cell? ⟨w.heap.size, 0 + 1, none⟩ = some (S x) := cell_of_row _ _ 1 #[S t, S x] 9 (0, 0) (heap_alloc_new w _)
  have HR : Hid (∀ P : Prop, (24 < t.length → P) → (t.length ≤ 24 → 24 < x.length → P) → (t.length ≤ 24 → x.length ≤ 24 → P) → P) := Lib.hid fun P h1 h2 h3 => by
    rcases Nat.lt_or_ge 24 t.length with h | h
    · exact h1 h
    · rcases Nat.lt_or_ge 24 x.length with h' | h'
      · exact h2 h h'
      · exact h3 h h'
  refine HR.out _ (fun h => ?_) (fun h h' => ?_) (fun h h' => ?_)
  · have HE := Lib.hid (show findE t x = 4 by unfold findE; rw [if_pos (.inl h)])
    have HL := Lib.hid (long2_a 24 t _ _ _ c0 (by omega))
    clear HR c0 c1
    go_enter Tryd.func32, Tryd.ntmps32
    go_wp2_with fail
    refine HL.out.mono ?_
    rintro e w' ⟨rfl, rfl⟩
    rw [show errV 4 = .iface 56 (.int .i64 4) from rfl]
    go_wp2_with fail
    go_ret
    exact ⟨by rw [HE.out]; rfl, HB.out⟩
  · have HE := Lib.hid (show findE t x = 4 by unfold findE; rw [if_pos (.inr h')])
    have HL := Lib.hid (long2_b 24 t x _ _ _ c0 c1 (by omega) (by omega))
    clear HR c0 c1
    go_enter Tryd.func32, Tryd.ntmps32
    go_wp2_with fail
    refine HL.out.mono ?_
    rintro e w' ⟨rfl, rfl⟩
    rw [show errV 4 = .iface 56 (.int .i64 4) from rfl]
    go_wp2_with fail
    go_ret
    exact ⟨by rw [HE.out]; rfl, HB.out⟩
  · have HL := Lib.hid (long2_no 24 t x _ _ _ c0 c1 (by omega) (by omega))
    clear HR c0 c1
    by_cases hx : x = []
    · have HE := Lib.hid (show findE t x = 5 by unfold findE; rw [if_neg (by omega), if_pos hx])
      subst hx
      go_enter Tryd.func32, Tryd.ntmps32
      go_wp2_with fail
      refine HL.out.mono ?_
      rintro e w' ⟨rfl, rfl⟩
      rw [show errV 0 = .nilIface from rfl]
      go_wp2_with fail
      go_ret
      exact ⟨by rw [HE.out]; rfl, HB.out⟩
    · have HE := Lib.hid (show findE t x = 0 by unfold findE; rw [if_neg (by omega), if_neg hx])
      have hne : x.isEmpty = false := by cases x with
        | nil => exact absurd rfl hx
        | cons => rfl
      have hne2 : (x == []) = false := by simpa using hx
      clear hx
      go_enter Tryd.func32, Tryd.ntmps32
      go_wp2_with fail
      refine HL.out.mono ?_
      rintro e w' ⟨rfl, rfl⟩
      rw [show errV 0 = .nilIface from rfl]
      go_wp2_with fail
      go_ret
      exact ⟨by rw [HE.out]; rfl, HB.out⟩

theorem Edges.set_ {x : List UInt8} {E : List Int} {j v : Nat} (h : Edges x E (j + 1)) (hv : Edge x (j + 1 + 1) v) (hl : j + 1 < E.length) : Edges x (E.set (j + 1) (v : Int)) (j + 1 + 1) := by
  intro m h1 h2
  rcases Nat.lt_or_ge (j + 1) m with hm | hm
  · obtain rfl : m = j + 1 + 1 := by omega
    exact ⟨v, by rw [show j + 1 + 1 - 1 = j + 1 by omega, gi_set_self hl], hv⟩
  · obtain ⟨e, he, hd⟩ := h m h1 hm
    exact ⟨e, by rw [gi_set_ne (by omega)]; exact he, hd⟩
theorem edge_cell {W : World} {g k e : Nat} {E : List Int} (hb : Blk W g 3 (E.map (Value.int .i64))) (hk : k < E.length) (he : gi E k = (e : Int)) : W.cell? ⟨g, k, none⟩ = some (.int .i64 (e : Int)) := by
  rw [hb.cell k, List.getElem?_map, List.getElem?_eq_getElem hk, ← gi_eq hk, he]
  rfl
theorem blk_set {W : World} {g k : Nat} {v : Int} {E : List Int} (hb : Blk W g 3 (E.map (Value.int .i64))) : Blk (W.setCell ⟨g, k, none⟩ (.int .i64 v)) g 3 ((E.set k v).map (Value.int .i64)) := by
  have := hb.set_ k (.int .i64 v)
  rwa [← List.map_set] at this

set_option maxRecDepth 100000 in
set_option maxHeartbeats 4000000 in
theorem edges_any (l : List UInt8) (w : World) (h0 : 0 < l.length) (h24 : l.length ≤ 24) :
    Calls Tryd.prog 33 #[S l] w fun e w' => (∃ g E, e = .returned (.tuple #[.slice (some ⟨g, 0, none⟩) l.length l.length, .nilIface]) ∧ E.length = l.length ∧ Edges l E l.length ∧ Blk w' g 3 (E.map (Value.int .i64)) ∧ w.heap.size ≤ g) ∧ Below w.heap.size w w' := by
  obtain ⟨i0, hi0, hz0, hz1, hz2⟩ := info_parts info_intF
  have hmk := fun W => mk_ints (P := Tryd.prog) Tryd.underlying28 hi0 hz0 hz1 rfl (by omega) l.length (by omega) W
  have HL := Lib.hid (long1_no 24 l (w.alloc (.cells #[S l] 9)) w.heap.size 0 (by simp [World.cell?_alloc_new]) (by omega))
  go_enter Tryd.func33, Tryd.ntmps33
  go_wp2_with fail
  refine HL.out.mono ?_
  rintro e w' ⟨rfl, rfl⟩
  go_wp2_with fail
  have HB0 : Hid (Below w.heap.size w ((w.alloc (.cells #[S l] 9)).alloc (.cells (Array.replicate l.length (.int .i64 0)) 3))) := Lib.hid (((Below.refl _ w).alloc (Nat.le_refl _) _).alloc (by simp) _)
  have HG0 : Hid (Blk ((w.alloc (.cells #[S l] 9)).alloc (.cells (Array.replicate l.length (.int .i64 0)) 3)) (w.heap.size + 1) 3 (((List.replicate l.length 0).map (Value.int .i64)))) := Lib.hid (by
    have := Blk.new (w.alloc (.cells #[S l] 9)) 3 (List.replicate l.length (.int .i64 0))
    rw [World.size_alloc, List.toArray_replicate] at this
    rw [List.map_replicate]; exact this)
  generalize (w.alloc (.cells #[S l] 9)).alloc (.cells (Array.replicate l.length (.int .i64 0)) 3) = w1 at *
  obtain ⟨g, hg⟩ : ∃ g, g = w.heap.size + 1 := ⟨_, rfl⟩
  rw [← hg] at HG0 ⊢
  have HGE : Hid (w.heap.size ≤ g) := Lib.hid (by omega)
  clear hg hmk HL
  go_loopg [6] l.length (fun f iv wr => ∃ (j : Nat) (E : List Int), j + f = l.length ∧ j + 1 ≤ l.length ∧ iv = .int .i64 ((j : Int) + 1) ∧ E.length = l.length ∧ Edges l E (j + 1) ∧ Blk wr g 3 (E.map (Value.int .i64)) ∧ Below w.heap.size w wr)
  case atStart =>
    refine ⟨0, List.replicate l.length 0, by omega, h0, rfl, by simp, fun m h1 h2 => ?_, HG0.out, HB0.out⟩
    obtain rfl : m = 1 := by omega
    exact ⟨0, by rw [gi_replicate]; rfl, Edge.one l⟩
  case round =>
    obtain ⟨j, E, hjf, hj1, rfl, hEl, hE, hbk, hB⟩ := hrel
    have HEl := Lib.hid hEl; have HE := Lib.hid hE; have HBK := Lib.hid hbk; have HB := Lib.hid hB
    clear hEl hE hbk hB HG0 HB0
    by_cases hlt : j + 1 < l.length
    · obtain ⟨f, rfl⟩ : ∃ f, gk = f + 1 := ⟨gk - 1, by omega⟩
      obtain ⟨e0, he0, hed⟩ := HE.out (j + 1) (by omega) (Nat.le_refl _)
      have hc : wr.cell? ⟨g, j, none⟩ = some (.int .i64 (e0 : Int)) := edge_cell HBK.out (by rw [HEl.out]; omega) (by simpa using he0)
      have hDN := hed.down
      have hek : e0 < j + 1 := hed.1
      have HDN := Lib.hid hDN
      clear hDN hed he0
      have p1 : (j : Int) + 1 < (l.length : Int) := by omega
      have p2 : IntKind.i64.wrap ((j : Int) + 1 - 1) = (j : Int) := by rw [i64_in _ (by omega)]; omega
      have p3 : (0 : Int) ≤ (j : Int) + 1 := by omega
      have p4 : ((j : Int) + 1).toNat = j + 1 := by omega
      have p5 : IntKind.i64.wrap ((j : Int) + 1 + 1) = (j : Int) + 1 + 1 := i64_in _ (by omega)
      have p6 : j < l.length := by omega
      go_wp2_with fail
      go_loopg [7] e0 (fun q kv wx => ∃ k : Nat, k = q ∧ kv = .int .i64 (k : Int) ∧ k < j + 1 ∧ Hid (Down l l (j + 1) (j + 1) k) ∧ Hid (Blk wx g 3 (E.map (Value.int .i64))) ∧ Hid (Below w.heap.size w wx))
      case atStart => exact ⟨e0, rfl, rfl, hek, HDN, HBK, HB⟩
      case round =>
        obtain ⟨k, rfl, rfl, hkj, HD, HBX, HX⟩ := hrel
        clear HDN HBK HB hc
        have p7 : (k : Int) < (l.length : Int) := by omega
        have p8 : k < l.length := by omega
        have s1 : wr.cell? ⟨g, j + 1, none⟩ = some (.int .i64 (gi E (j + 1))) := by
          rw [HBX.out.cell, List.getElem?_map, List.getElem?_eq_getElem (by rw [HEl.out]; omega), ← gi_eq (by rw [HEl.out]; omega)]; rfl
        have s2 : wr.frozen? ⟨g, j + 1, none⟩ = false := HBX.out.frozen _
        by_cases hb : bu l k = bu l (j + 1)
        · have q1 : (((bu l k).toNat : Int) != ((bu l (j + 1)).toNat : Int)) = false := by rw [hb]; simp
          have q2 : (((bu l k).toNat : Int) == ((bu l (j + 1)).toNat : Int)) = true := by rw [hb]; simp
          have p9 : IntKind.i64.wrap ((k : Int) + 1) = (k : Int) + 1 := i64_in _ (by omega)
          have HN := Lib.hid (Edge.next HD.out hkj (.inr hb))
          rw [if_pos hb] at HN
          clear hb HD
          rcases Nat.eq_zero_or_pos k with rfl | hk0
          all_goals
            go_wp2_with fail
            go_quiet (fail)
            go_wp2_with fail
            go_quiet (fail)
            go_wp2_with fail
            go_roundg f
            case measure => omega
            case rel => exact ⟨j + 1, E.set (j + 1) ((_ : Nat) : Int), by omega, by omega, by simp, by rw [List.length_set]; exact HEl.out, HE.out.set_ HN.out (by rw [HEl.out]; omega), blk_set HBX.out, (below_drewN HX.out _).setCell (p := ⟨g, j + 1, none⟩) HGE.out _⟩
        · rcases Nat.eq_zero_or_pos k with rfl | hk0
          · have q1 : (((bu l 0).toNat : Int) == ((bu l (j + 1)).toNat : Int)) = false := by simp; intro h; exact hb (UInt8.toNat.inj (by omega))
            have HN := Lib.hid (Edge.next HD.out hkj (.inl rfl))
            rw [if_neg hb] at HN
            clear hb HD
            go_wp2_with fail
            go_quiet (fail)
            go_wp2_with fail
            go_quiet (fail)
            go_wp2_with fail
            go_roundg f
            case measure => omega
            case rel => exact ⟨j + 1, E.set (j + 1) ((0 : Nat) : Int), by omega, by omega, by simp, by rw [List.length_set]; exact HEl.out, HE.out.set_ HN.out (by rw [HEl.out]; omega), blk_set HBX.out, (below_drewN HX.out _).setCell (p := ⟨g, j + 1, none⟩) HGE.out _⟩
          · have q1 : (((bu l k).toNat : Int) != ((bu l (j + 1)).toNat : Int)) = true := by simp; intro h; exact hb (UInt8.toNat.inj (by omega))
            obtain ⟨q, rfl⟩ : ∃ q, k = q + 1 := ⟨k - 1, by omega⟩
            obtain ⟨e1, he1, hed1⟩ := HE.out (q + 1) (by omega) (by omega)
            have hc1 : wr.cell? ⟨g, q, none⟩ = some (.int .i64 (e1 : Int)) := edge_cell HBX.out (by rw [HEl.out]; omega) (by simpa using he1)
            have HD1 := Lib.hid (HD.out.step hed1 (fun h => hb h.2))
            have he2 : e1 < q + 1 := hed1.1
            have r1 : IntKind.i64.wrap (((q + 1 : Nat) : Int) - 1) = (q : Int) := by rw [i64_in _ (by omega)]; omega
            have r2 : IntKind.i64.wrap ((q : Int) + 1 - 1) = (q : Int) := by rw [i64_in _ (by omega)]; omega
            clear hb HD hed1 he1
            go_wp2_with fail
            go_quiet (fail)
            go_wp2_with fail
            go_roundg e1
            case measure => omega
            case rel => exact ⟨e1, rfl, rfl, by omega, HD1, HBX, Lib.hid (below_drewN HX.out _)⟩
    · have hjl : j + 1 = l.length := by omega
      have p1 : ¬ (j : Int) + 1 < (l.length : Int) := by omega
      have HEE := HE.out
      rw [hjl] at HEE
      have HE2 := Lib.hid HEE
      clear HEE hjl HE
      go_wp2_with fail
      go_ret2
      exact ⟨⟨g, rfl, E, HEl.out, HE2.out, HBK.out, HGE.out⟩, HB.out⟩

set_option maxRecDepth 100000 in
set_option maxHeartbeats 8000000 in
theorem find_any (t x : List UInt8) (w : World) (ht9 : t.length ≤ 9223372036854775807) (hx9 : x.length ≤ 9223372036854775807) :
    Calls Tryd.prog 16 #[S t, S x] w fun e w' => (∃ A n c, e = .returned (.tuple #[.slice A n c, errV (findE t x)]) ∧ (findE t x = 0 → Ints w' w'.heap.size A n ((occ x t).map fun p : Nat => (p : Int)))) ∧ Below w.heap.size w w' := by
  obtain ⟨i0, hi0, hz0, hz1, hz2⟩ := info_parts info_intF
  have HCK := Lib.hid (check_any t x w ht9 hx9)
  by_cases he : findE t x = 0
  rotate_left
  · rw [err_ne he] at HCK ⊢
    have HE := Lib.hid he
    clear he
    go_enter Tryd.func16, Tryd.ntmps16
    go_wp2_with fail
    refine HCK.out.mono ?_
    rintro e w1 ⟨rfl, hb1⟩
    have HB := Lib.hid hb1
    clear hb1
    go_wp2_with fail
    go_ret2
    exact ⟨⟨none, 0, 0, rfl, fun h => absurd h HE.out⟩, HB.out⟩
  have hle : t.length ≤ 24 ∧ x.length ≤ 24 ∧ 0 < x.length := by
    unfold findE at he
    by_cases h : 24 < t.length ∨ 24 < x.length
    · rw [if_pos h] at he; exact absurd he (by decide)
    · rw [if_neg h] at he
      by_cases h' : x = []
      · rw [if_pos h'] at he; exact absurd he (by decide)
      · exact ⟨by omega, by omega, List.length_pos_iff.2 h'⟩
  obtain ⟨ht24, hx24, hx0⟩ := hle
  rw [he] at HCK ⊢
  rw [show errV 0 = .nilIface from rfl] at HCK ⊢
  have HED := Lib.hid (fun W => edges_any x W hx0 hx24)
  clear he
  go_enter Tryd.func16, Tryd.ntmps16
  go_wp2_with fail
  refine HCK.out.mono ?_
  rintro e w1 ⟨rfl, hb1⟩
  have HB1 := Lib.hid hb1
  clear hb1 HCK
  go_wp2_with fail
  refine (HED.out _).mono ?_
  rintro e w2 ⟨⟨g, E, rfl, hEl, hE, hbk, _⟩, hb2⟩
  have HB2 := Lib.hid (HB1.out.trans (hb2.mono HB1.out.size))
  have HEl := Lib.hid hEl; have HE := Lib.hid hE; have HBK := Lib.hid hbk
  have hg2 := hbk.lt
  clear hEl hE hbk hb2 HB1 HED
  go_wp2_with fail
  go_loopg [9, 10, 28] t.length (fun f ov kv iv wr => ∃ (i k : Nat), i + f = t.length ∧ kv = .int .i64 (k : Int) ∧ iv = .int .i64 (i : Int) ∧ Hid (Most x t i k) ∧ wr.ownsRow w2.heap.size 3 1 ov (occI x t i).length (((occI x t i).map fun p : Nat => (p : Int)).map (Value.int .i64)) ∧ Below w2.heap.size w2 wr)
  case atStart => exact ⟨0, 0, by omega, rfl, rfl, Lib.hid (Most.zero x t), by rw [occI_zero hx0]; exact World.ownsRow_nil _ _ _ _, Below.refl _ _⟩
  case round =>
    obtain ⟨i, k0, hif, rfl, rfl, HM, hown, hB⟩ := hrel
    have HOWN := Lib.hid hown
    have HB := Lib.hid hB
    clear hB
    by_cases hlt : i < t.length
    · obtain ⟨f, rfl⟩ : ∃ f, gk = f + 1 := ⟨gk - 1, by omega⟩
      have hk0 : k0 ≤ x.length := HM.out.1
      have HDN := Lib.hid HM.out.down
      have hzl := occI_len x t i
      have HST : Hid (∀ k, Most x t (i + 1) k → occI x t (i + 1) = if k = x.length then occI x t i ++ [i + 1 - x.length] else occI x t i) := Lib.hid fun k h => occI_step hlt h
      have p2 : (i : Int) < (t.length : Int) := by omega
      have p5 : IntKind.i64.wrap ((i : Int) + 1) = (i : Int) + 1 := i64_in _ (by omega)
      generalize occI x t i = zs at *
      obtain ⟨A1, c1, rfl, hc1⟩ := own_shape hown
      clear hown HM
      have HBG : Hid (∀ W : World, Below w2.heap.size w2 W → Blk W g 3 (E.map (Value.int .i64))) := Lib.hid fun W h => HBK.out.below h hg2
      go_wp2_with fail
      go_loopg [10] k0 (fun q kv wx => ∃ k : Nat, k = q ∧ kv = .int .i64 (k : Int) ∧ k ≤ x.length ∧ Hid (Down x t x.length i k) ∧ Hid (wx.ownsRow w2.heap.size 3 1 (.slice A1 zs.length c1) zs.length ((zs.map fun p : Nat => (p : Int)).map (Value.int .i64))) ∧ Hid (Below w2.heap.size w2 wx))
      case atStart => exact ⟨k0, rfl, rfl, hk0, HDN, HOWN, HB⟩
      case round =>
        obtain ⟨k, rfl, rfl, hkx, HD, HOX, HX⟩ := hrel
        clear HDN HOWN HB hk0
        have HZB := HX.out.size
        by_cases hgo : k = 0 ∨ (k < x.length ∧ bu x k = bu t i)
        · -- the end of the inner loop
          have hkl : k < x.length := by omega
          have p7 : (k : Int) < (x.length : Int) := by omega
          have p8 : ¬ (k : Int) = (x.length : Int) := by omega
          have p8' : ((k : Int) == (x.length : Int)) = false := by simp; omega
          have p9 : IntKind.i64.wrap ((k : Int) + 1) = (k : Int) + 1 := i64_in _ (by omega)
          have HN := Lib.hid (Most.next HD.out hkx hgo hx0)
          by_cases hb : bu x k = bu t i
          · have q1 : (((bu x k).toNat : Int) != ((bu t i).toNat : Int)) = false := by rw [hb]; simp
            have q2 : (((bu x k).toNat : Int) == ((bu t i).toNat : Int)) = true := by rw [hb]; simp
            rw [if_pos hb] at HN
            have HST2 := Lib.hid (HST.out _ HN.out)
            clear HST hgo hb HD
            by_cases hfull : k + 1 = x.length
            · have p10 : ((k : Int) + 1 == (x.length : Int)) = true := by simp; omega
              have r1 : IntKind.i64.wrap ((i : Int) - ((k : Int) + 1)) = (i : Int) - ((k : Int) + 1) := i64_in _ (by omega)
              have hki : k + 1 ≤ i + 1 := HN.out.2.1.1
              have r2 : IntKind.i64.wrap ((i : Int) - ((k : Int) + 1) + 1) = ((i + 1 - x.length : Nat) : Int) := by rw [i64_in _ (by omega)]; omega
              have HS3 : Hid (occI x t (i + 1) = zs ++ [i + 1 - x.length]) := Lib.hid (by rw [HST2.out, if_pos hfull])
              clear HST2
              rcases Nat.eq_zero_or_pos k with rfl | hk0
              · have p10' : ((1 : Int) == (x.length : Int)) = true := by simp; omega
                have r1' : IntKind.i64.wrap ((i : Int) - 1) = (i : Int) - 1 := i64_in _ (by omega)
                have r2' : IntKind.i64.wrap ((i : Int) - 1 + 1) = ((i + 1 - x.length : Nat) : Int) := by rw [i64_in _ (by omega)]; omega
                have r3' : IntKind.i64.wrap (i : Int) = ((i + 1 - x.length : Nat) : Int) := by rw [i64_in _ (by omega)]; omega
                go_wp2_with fail
                go_quiet (fail)
                go_wp2_with fail
                go_quiet (fail)
                go_wp2_with (at_builtin; refine wpList_append1 rfl (.tmp 66) (.tmp 71) _ rfl 3 i0 _ Tryd.underlying28 hi0 hz0 hz1 (by omega) rfl w2.heap.size (.slice A1 zs.length c1) ((zs.map fun p : Nat => (p : Int)).map (Value.int .i64)) (.int .i64 ((i + 1 - x.length : Nat) : Int)) rfl rfl rfl (by rw [List.length_map, List.length_map]; exact HOX.out) (by simp; omega) HZB ?_; intro v' w' hown' hB')
                have hown2 : w'.ownsRow w2.heap.size 3 1 v' (occI x t (i + 1)).length (((occI x t (i + 1)).map fun p : Nat => (p : Int)).map (Value.int .i64)) := by rw [HS3.out, List.map_append, List.map_append]; simpa using hown'
                have HO2 := Lib.hid hown2; clear hown2 hown'
                have HBF := Lib.hid ((below_drewN HX.out _).trans hB'); clear hB'
                go_wp2_with fail
                go_roundg f
                case measure => omega
                case rel => exact ⟨i + 1, _, by omega, by first | rfl | simp, by simp, HN, HO2.out, HBF.out⟩
              · have hz1' : (0 : Int) < (k : Int) := by omega
                go_wp2_with fail
                go_quiet (fail)
                go_wp2_with fail
                go_quiet (fail)
                go_wp2_with (at_builtin; refine wpList_append1 rfl (.tmp 66) (.tmp 71) _ rfl 3 i0 _ Tryd.underlying28 hi0 hz0 hz1 (by omega) rfl w2.heap.size (.slice A1 zs.length c1) ((zs.map fun p : Nat => (p : Int)).map (Value.int .i64)) (.int .i64 ((i + 1 - x.length : Nat) : Int)) rfl rfl rfl (by rw [List.length_map, List.length_map]; exact HOX.out) (by simp; omega) HZB ?_; intro v' w' hown' hB')
                have hown2 : w'.ownsRow w2.heap.size 3 1 v' (occI x t (i + 1)).length (((occI x t (i + 1)).map fun p : Nat => (p : Int)).map (Value.int .i64)) := by rw [HS3.out, List.map_append, List.map_append]; simpa using hown'
                have HO2 := Lib.hid hown2; clear hown2 hown'
                have HBF := Lib.hid ((below_drewN HX.out _).trans hB'); clear hB'
                go_wp2_with fail
                go_roundg f
                case measure => omega
                case rel => exact ⟨i + 1, _, by omega, by first | rfl | simp, by simp, HN, HO2.out, HBF.out⟩
            · have p10 : ((k : Int) + 1 == (x.length : Int)) = false := by simp; omega
              have HS3 : Hid (occI x t (i + 1) = zs) := Lib.hid (by rw [HST2.out, if_neg hfull])
              clear HST2
              rcases Nat.eq_zero_or_pos k with rfl | hk0
              · have p10' : ((1 : Int) == (x.length : Int)) = false := by simp; omega
                go_wp2_with fail
                go_quiet (fail)
                go_wp2_with fail
                go_quiet (fail)
                go_wp2_with fail
                go_roundg f
                case measure => omega
                case rel => exact ⟨i + 1, _, by omega, by first | rfl | simp, by simp, HN, by rw [HS3.out]; exact HOX.out, below_drewN HX.out _⟩
              · have hz1' : (0 : Int) < (k : Int) := by omega
                go_wp2_with fail
                go_quiet (fail)
                go_wp2_with fail
                go_quiet (fail)
                go_wp2_with fail
                go_roundg f
                case measure => omega
                case rel => exact ⟨i + 1, _, by omega, by first | rfl | simp, by simp, HN, by rw [HS3.out]; exact HOX.out, below_drewN HX.out _⟩
          · obtain rfl : k = 0 := hgo.elim id (fun h => absurd h.2 hb)
            have q1 : (((bu x 0).toNat : Int) == ((bu t i).toNat : Int)) = false := by simp; intro h; exact hb (UInt8.toNat.inj (by omega))
            rw [if_neg hb] at HN
            have HS3 : Hid (occI x t (i + 1) = zs) := Lib.hid (by rw [HST.out _ HN.out, if_neg (show ¬ 0 = x.length by omega)])
            clear HST hgo hb HD
            go_wp2_with fail
            go_quiet (fail)
            go_wp2_with fail
            go_quiet (fail)
            go_wp2_with fail
            go_roundg f
            case measure => omega
            case rel => exact ⟨i + 1, 0, by omega, rfl, by simp, HN, by rw [HS3.out]; exact HOX.out, below_drewN HX.out _⟩
        · obtain ⟨q, rfl⟩ : ∃ q, k = q + 1 := ⟨k - 1, by omega⟩
          obtain ⟨e1, he1, hed1⟩ := HE.out (q + 1) (by omega) (by omega)
          have hc1 : wr.cell? ⟨g, q, none⟩ = some (.int .i64 (e1 : Int)) := edge_cell (HBG.out _ HX.out) (by rw [HEl.out]; omega) (by simpa using he1)
          have HD1 := Lib.hid (HD.out.step hed1 (fun h => hgo (.inr h)))
          have he2 : e1 < q + 1 := hed1.1
          have r1 : IntKind.i64.wrap (((q + 1 : Nat) : Int) - 1) = (q : Int) := by rw [i64_in _ (by omega)]; omega
          have r2 : IntKind.i64.wrap ((q : Int) + 1 - 1) = (q : Int) := by rw [i64_in _ (by omega)]; omega
          have hqx : q < x.length := by omega
          have p13 : (q : Int) < (x.length : Int) := by omega
          by_cases hful : q + 1 = x.length
          · have p10 : ((q : Int) + 1 == (x.length : Int)) = true := by simp; omega
            clear hful hgo HD hed1 he1
            go_wp2_with fail
            go_quiet (fail)
            go_wp2_with fail
            go_roundg e1
            case measure => omega
            case rel => exact ⟨e1, rfl, rfl, by omega, HD1, HOX, Lib.hid (below_drewN HX.out _)⟩
          · have p10 : ((q : Int) + 1 == (x.length : Int)) = false := by simp; omega
            have p11 : (q : Int) + 1 < (x.length : Int) := by omega
            have p12 : q + 1 < x.length := by omega
            have hb : ¬ bu x (q + 1) = bu t i := fun h => hgo (.inr ⟨by omega, h⟩)
            have q1 : (((bu x (q + 1)).toNat : Int) != ((bu t i).toNat : Int)) = true := by simp; intro h; exact hb (UInt8.toNat.inj (by omega))
            clear hgo HD hed1 he1 hb
            go_wp2_with fail
            go_quiet (fail)
            go_wp2_with fail
            go_roundg e1
            case measure => omega
            case rel => exact ⟨e1, rfl, rfl, by omega, HD1, HOX, Lib.hid (below_drewN HX.out _)⟩
    · obtain rfl : i = t.length := by omega
      rw [occI_all (w := x) (t := t) hx0] at hown
      obtain ⟨A1, c1, rfl, hc1⟩ := own_shape hown
      have hin := Ints.of_own hown
      have HIN := Lib.hid hin
      clear hin hown HOWN
      have HBF := Lib.hid (HB2.out.trans (HB.out.mono HB2.out.size))
      generalize (occ x t).length = n at *
      go_wp2_with fail
      go_ret2
      exact ⟨⟨A1, n, c1, rfl, fun _ => HIN.out⟩, HBF.out⟩
end Go.Proofs.YtgmmlblefealjaaDoor
