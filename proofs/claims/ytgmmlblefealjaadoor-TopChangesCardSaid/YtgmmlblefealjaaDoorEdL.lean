/- package common's table and Long, at texts that are not too long: a table in rows, written from its end. No condition. -/
import Derived.Test.YtgmmlblefealjaaDoorEdF
import Derived.StillTailTactics
namespace Go.Proofs.YtgmmlblefealjaaDoor
open Go.RowKit IntWalk
attribute [local go_sem] byte_at str_app
attribute [local go_sem ↓] Go.wp_at_zero Go.wp_at_succ

theorem info_rows : (Tryd.prog.info? 28).map (fun i => (i.zero, i.size, i.bytes)) = some (some (.slice none 0 0), 1, 24) := by kernel_rfl
theorem max2n {P : Program} {w : World} (ts : Array TypeId) (t : TypeId) (k k' : IntKind) (x y : Nat) :
    (Builtin.max_ ts t #[.int k (x : Int), .int k' (y : Int)]).run P w = .ok (.int k ((max x y : Nat) : Int)) w := by
  simp only [Builtin.max_, Builtin.max2, List.foldlM_cons, List.foldlM_nil]
  simp
  split <;> omega
/-- The row of the ends from i on: from cell q on. -/
def Rl (a b : List UInt8) (i q : Nat) (E : List Int) : Prop := E.length = b.length + 1 ∧ ∀ j, q ≤ j → j ≤ b.length → gi E j = ((lc (a.drop i) (b.drop j) : Nat) : Int)
theorem Rl.zero (a b : List UInt8) (i : Nat) : Rl a b i b.length (List.replicate (b.length + 1) 0) :=
  ⟨by simp, fun j h1 h2 => by rw [gi_replicate, List.drop_of_length_le (l := b) (by omega), lc_nilR]; rfl⟩
theorem Rl.last (a b : List UInt8) : Rl a b a.length 0 (List.replicate (b.length + 1) 0) :=
  ⟨by simp, fun j h1 h2 => by rw [gi_replicate, List.drop_of_length_le (Nat.le_refl _), lc_nilL]; rfl⟩
theorem lc_eq {a b : List UInt8} {i j : Nat} (hi : i < a.length) (hj : j < b.length) (h : bu a i = bu b j) : lc (a.drop i) (b.drop j) = 1 + lc (a.drop (i + 1)) (b.drop (j + 1)) := by
  rw [drop_bu hi, drop_bu hj, lc_cons, if_pos h]
theorem lc_ne {a b : List UInt8} {i j : Nat} (hi : i < a.length) (hj : j < b.length) (h : ¬ bu a i = bu b j) : lc (a.drop i) (b.drop j) = max (lc (a.drop (i + 1)) (b.drop j)) (lc (a.drop i) (b.drop (j + 1))) := by
  have h1 := drop_bu hi
  have h2 := drop_bu hj
  rw [h1, h2, lc_cons, if_neg h, ← h1, ← h2]
theorem Rl.step {a b : List UInt8} {i j v : Nat} {E : List Int} (h : Rl a b i (j + 1) E) (hj : j < b.length) (hv : v = lc (a.drop i) (b.drop j)) : Rl a b i j (E.set j (v : Int)) := by
  refine ⟨by rw [List.length_set]; exact h.1, fun k h1 h2 => ?_⟩
  by_cases he : k = j
  · subst he
    rw [gi_set_self (by rw [h.1]; omega), hv]
  · rw [gi_set_ne (by omega)]; exact h.2 k (by omega) h2
theorem slice_cell {W : World} {g k : Nat} {t : TypeId} {V : List Value} {u : Value} (hb : Blk W g t V) (h : V[k]? = some u) : W.cell? ⟨g, k, none⟩ = some u := by rw [hb.cell, h]

set_option maxRecDepth 100000 in
set_option maxHeartbeats 8000000 in
theorem table_any (a b : List UInt8) (w : World) (ha24 : a.length ≤ 24) (hb24 : b.length ≤ 24) :
    Calls Tryd.prog 23 #[S a, S b] w fun e w' => (∃ g r, e = .returned (.slice (some ⟨g, 0, none⟩) (a.length + 1) (a.length + 1)) ∧ w'.cell? ⟨g, 0, none⟩ = some (.slice (some ⟨r, 0, none⟩) (b.length + 1) (b.length + 1)) ∧ w'.cell? ⟨r, 0, none⟩ = some (.int .i64 (lc a b : Int))) ∧ Below w.heap.size w w' := by
  obtain ⟨i0, hi0, hz0, hz1, hz2⟩ := info_parts info_intF
  obtain ⟨i1, hi1, hy0, hy1, hy2⟩ := info_parts info_rows
  have hmk : ∀ W, (Instr.makeSlice 28 (.int .i64 ((b.length : Int) + 1)) (.int .i64 ((b.length : Int) + 1))).run Tryd.prog W = .ok (.slice (some ⟨W.heap.size, 0, none⟩) (b.length + 1) (b.length + 1)) (W.alloc (.cells (List.replicate (b.length + 1) (.int .i64 0)).toArray 3)) := fun W => by
    have := mk_ints (P := Tryd.prog) Tryd.underlying28 hi0 hz0 hz1 rfl (by omega) (b.length + 1) (by omega) W
    rwa [show ((b.length + 1 : Nat) : Int) = (b.length : Int) + 1 by omega] at this
  have hmk2 : ∀ W, (Instr.makeSlice 52 (.int .i64 ((a.length : Int) + 1)) (.int .i64 ((a.length : Int) + 1))).run Tryd.prog W = .ok (.slice (some ⟨W.heap.size, 0, none⟩) (a.length + 1) (a.length + 1)) (W.alloc (.cells (List.replicate (a.length + 1) (.slice none 0 0)).toArray 28)) := fun W => by
    have := mk_ints (P := Tryd.prog) Tryd.underlying52 hi1 hy0 hy1 rfl (by omega) (a.length + 1) (by omega) W
    rwa [show ((a.length + 1 : Nat) : Int) = (a.length : Int) + 1 by omega] at this
  have hl1 : IntKind.i64.wrap ((b.length : Int) + 1) = (b.length : Int) + 1 := i64_in _ (by omega)
  have hl2 : IntKind.i64.wrap ((a.length : Int) + 1) = (a.length : Int) + 1 := i64_in _ (by omega)
  have hl3 : IntKind.i64.wrap ((b.length : Int) - 1) = (b.length : Int) - 1 := i64_in _ (by omega)
  go_enter Tryd.func23, Tryd.ntmps23
  go_wp2_with fail
  have HB0 : Hid (Below w.heap.size w (w.alloc (.cells (Array.replicate (a.length + 1) (.slice none 0 0)) 28))) := Lib.hid ((Below.refl _ w).alloc (Nat.le_refl _) _)
  have HG0 : Hid (Blk (w.alloc (.cells (Array.replicate (a.length + 1) (.slice none 0 0)) 28)) w.heap.size 28 (List.replicate (a.length + 1) (.slice none 0 0))) := Lib.hid (by
    have := Blk.new w 28 (List.replicate (a.length + 1) (.slice none 0 0))
    rwa [List.toArray_replicate] at this)
  generalize w.alloc (.cells (Array.replicate (a.length + 1) (.slice none 0 0)) 28) = w1 at *
  obtain ⟨g, hg⟩ : ∃ g, g = w.heap.size := ⟨_, rfl⟩
  rw [← hg] at HG0 ⊢
  have HGE : Hid (w.heap.size ≤ g) := Lib.hid (by omega)
  clear hg hmk2
  go_loopg [6] (a.length + 1) (fun f iv wr => ∃ (v : Int) (V : List Value), iv = .int .i64 v ∧ v = (f : Int) - 1 ∧ f ≤ a.length + 1 ∧ Hid (V.length = a.length + 1 ∧ (f ≤ a.length → ∃ r E, V[f]? = some (.slice (some ⟨r, 0, none⟩) (b.length + 1) (b.length + 1)) ∧ Blk wr r 3 (E.map (Value.int .i64)) ∧ Rl a b f 0 E)) ∧ Hid (Blk wr g 28 V) ∧ Hid (Below w.heap.size w wr))
  case atStart => exact ⟨(a.length : Int), _, rfl, by omega, by omega, Lib.hid ⟨by simp, fun h => absurd h (by omega)⟩, HG0, HB0⟩
  case round =>
    obtain ⟨v, V, rfl, hv, hfa, HV, HBK, HB⟩ := hrel
    clear HG0 HB0
    by_cases hlt : 0 < gk
    · obtain ⟨i, rfl⟩ : ∃ f, gk = f + 1 := ⟨gk - 1, by omega⟩
      obtain rfl : v = (i : Int) := by omega
      clear hv
      have p1 : (i : Int) < (a.length : Int) + 1 := by omega
      have p2 : IntKind.i64.wrap ((i : Int) - 1) = (i : Int) - 1 := i64_in _ (by omega)
      have s1 : ∀ o, (wr.alloc o).frozen? ⟨g, i, none⟩ = false := fun o => (HBK.out.alloc o).frozen i
      obtain ⟨u0, hu0⟩ : ∃ u, V[i]? = some u := ⟨V[i]'(by rw [HV.out.1]; omega), List.getElem?_eq_getElem _⟩
      have s2 : ∀ o, (wr.alloc o).cell? ⟨g, i, none⟩ = some u0 := fun o => by rw [(HBK.out.alloc o).cell, hu0]
      clear hu0
      -- the new row
      have HR : Hid (Blk (wr.alloc (.cells (Array.replicate (b.length + 1) (.int .i64 0)) 3)) wr.heap.size 3 ((List.replicate (b.length + 1) (0 : Int)).map (Value.int .i64))) := Lib.hid (by
        have := Blk.new wr 3 (List.replicate (b.length + 1) (.int .i64 0))
        rw [List.toArray_replicate] at this
        rw [List.map_replicate]; exact this)
      have hgr : g ≠ wr.heap.size := Nat.ne_of_lt HBK.out.lt
      have HR2 := Lib.hid (HR.out.far (p := ⟨g, i, none⟩) (fun e => hgr e.symm) (.slice (some ⟨wr.heap.size, 0, none⟩) (b.length + 1) (b.length + 1)))
      have HK2 := Lib.hid ((HBK.out.alloc (.cells (Array.replicate (b.length + 1) (.int .i64 0)) 3)).set_ i (.slice (some ⟨wr.heap.size, 0, none⟩) (b.length + 1) (b.length + 1)))
      have HB2 := Lib.hid ((HB.out.alloc HB.out.size (.cells (Array.replicate (b.length + 1) (.int .i64 0)) 3)).setCell (p := ⟨g, i, none⟩) HGE.out (.slice (some ⟨wr.heap.size, 0, none⟩) (b.length + 1) (b.length + 1)))
      have HV2 : Hid ((V.set i (.slice (some ⟨wr.heap.size, 0, none⟩) (b.length + 1) (b.length + 1))).length = a.length + 1 ∧ (V.set i (.slice (some ⟨wr.heap.size, 0, none⟩) (b.length + 1) (b.length + 1)))[i]? = some (.slice (some ⟨wr.heap.size, 0, none⟩) (b.length + 1) (b.length + 1))) := Lib.hid ⟨by rw [List.length_set]; exact HV.out.1, by rw [List.getElem?_set_self (by rw [HV.out.1]; omega)]⟩
      by_cases hia : i = a.length
      · subst hia
        have q1 : ((a.length : Int) == (a.length : Int)) = true := by simp
        clear HV HBK HB HR
        go_wp2_with fail
        go_roundg a.length
        case measure => omega
        case rel => exact ⟨(a.length : Int) - 1, _, rfl, rfl, by omega, Lib.hid ⟨HV2.out.1, fun _ => ⟨_, _, HV2.out.2, HR2.out, Rl.last a b⟩⟩, HK2, HB2⟩
      · have q1 : ((i : Int) == (a.length : Int)) = false := by simp; omega
        obtain ⟨r1, E1, hV1, hE1, hR1⟩ := HV.out.2 (by omega)
        have hrr : r1 ≠ wr.heap.size := Nat.ne_of_lt hE1.lt
        have hlia : i < a.length := by omega
        have HE1 : Hid (Blk ((wr.alloc (.cells (Array.replicate (b.length + 1) (.int .i64 0)) 3)).setCell ⟨g, i, none⟩ (.slice (some ⟨wr.heap.size, 0, none⟩) (b.length + 1) (b.length + 1))) r1 3 (E1.map (Value.int .i64))) := Lib.hid ((hE1.alloc _).far (p := ⟨g, i, none⟩) (fun e => by
          have h1 := hE1
          have h2 := HBK.out
          have e : r1 = g := e
          subst e
          unfold Blk at h1 h2
          rw [h1] at h2
          injection h2 with h2; injection h2 with _ h2 _
          exact absurd h2 (by decide)) _)
        have HV3 : Hid ((V.set i (.slice (some ⟨wr.heap.size, 0, none⟩) (b.length + 1) (b.length + 1)))[i + 1]? = some (.slice (some ⟨r1, 0, none⟩) (b.length + 1) (b.length + 1))) := Lib.hid (by rw [List.getElem?_set_ne (by omega)]; exact hV1)
        have HR1 := Lib.hid hR1
        have HRR : Hid (r1 ≠ wr.heap.size ∧ g ≠ wr.heap.size ∧ w.heap.size ≤ wr.heap.size) := Lib.hid ⟨hrr, hgr, HB.out.size⟩
        clear HV HBK HB HR hV1 hE1 hR1 hia hrr
        go_wp2_with fail
        clear s1 s2
        generalize (wr.alloc (.cells (Array.replicate (b.length + 1) (.int .i64 0)) 3)).setCell ⟨g, i, none⟩ (.slice (some ⟨wr.heap.size, 0, none⟩) (b.length + 1) (b.length + 1)) = w2 at *
        generalize V.set i (.slice (some ⟨wr.heap.size, 0, none⟩) (b.length + 1) (b.length + 1)) = V2 at *
        generalize wr.heap.size = r at *
        go_loopg [7] b.length (fun q jv wx => ∃ (v : Int) (E : List Int), jv = .int .i64 v ∧ v = (q : Int) - 1 ∧ q ≤ b.length ∧ Hid (Rl a b i q E) ∧ Hid (Blk wx r 3 (E.map (Value.int .i64))) ∧ Hid (Blk wx r1 3 (E1.map (Value.int .i64))) ∧ Hid (Blk wx g 28 V2) ∧ Hid (Below w.heap.size w wx))
        case atStart => exact ⟨(b.length : Int) - 1, _, rfl, rfl, by omega, Lib.hid (Rl.zero a b i), HR2, HE1, HK2, HB2⟩
        case round =>
          obtain ⟨v, E, rfl, hv, hqb, HE, HBr, HBr1, HBg, HB⟩ := hrel
          clear HR2 HE1 HK2 HB2
          by_cases hltq : 0 < gk
          · obtain ⟨j, rfl⟩ : ∃ f, gk = f + 1 := ⟨gk - 1, by omega⟩
            obtain rfl : v = (j : Int) := by omega
            clear hv
            have c1 : wr.cell? ⟨g, i, none⟩ = some (.slice (some ⟨r, 0, none⟩) (b.length + 1) (b.length + 1)) := slice_cell HBg.out HV2.out.2
            have c2 : wr.cell? ⟨g, i + 1, none⟩ = some (.slice (some ⟨r1, 0, none⟩) (b.length + 1) (b.length + 1)) := slice_cell HBg.out HV3.out
            have c3 : wr.cell? ⟨r1, j + 1, none⟩ = some (.int .i64 (lc (a.drop (i + 1)) (b.drop (j + 1)) : Int)) := row_cell HBr1.out (by rw [HR1.out.1]; omega) (HR1.out.2 _ (by omega) (by omega))
            have c4 : wr.cell? ⟨r1, j, none⟩ = some (.int .i64 (lc (a.drop (i + 1)) (b.drop j) : Int)) := row_cell HBr1.out (by rw [HR1.out.1]; omega) (HR1.out.2 _ (by omega) (by omega))
            have c5 : wr.cell? ⟨r, j + 1, none⟩ = some (.int .i64 (lc (a.drop i) (b.drop (j + 1)) : Int)) := row_cell HBr.out (by rw [HE.out.1]; omega) (HE.out.2 _ (by omega) (by omega))
            have c6 : wr.cell? ⟨r, j, none⟩ = some (.int .i64 (gi E j)) := by
              rw [HBr.out.cell, List.getElem?_map, List.getElem?_eq_getElem (by rw [HE.out.1]; omega), ← gi_eq (by rw [HE.out.1]; omega)]; rfl
            have c7 : wr.frozen? ⟨r, j, none⟩ = false := HBr.out.frozen _
            have b1 := lc_le (a.drop (i + 1)) (b.drop (j + 1))
            rw [List.length_drop] at b1
            have p3 : IntKind.i64.wrap ((j : Int) - 1) = (j : Int) - 1 := i64_in _ (by omega)
            have p4 : (j : Int) < (b.length : Int) := by omega
            have p5 : (i : Int) < (a.length : Int) := by omega
            have p6 : IntKind.i64.wrap ((i : Int) + 1) = (i : Int) + 1 := i64_in _ (by omega)
            have p7 : IntKind.i64.wrap ((j : Int) + 1) = (j : Int) + 1 := i64_in _ (by omega)
            have p8 : (0 : Int) ≤ (i : Int) + 1 := by omega
            have p9 : (i : Int) + 1 < (a.length : Int) + 1 := by omega
            have p10 : ((i : Int) + 1).toNat = i + 1 := by omega
            have p11 : (0 : Int) ≤ (j : Int) + 1 := by omega
            have p12 : (j : Int) + 1 < (b.length : Int) + 1 := by omega
            have p13 : ((j : Int) + 1).toNat = j + 1 := by omega
            have p14 : (j : Int) < (b.length : Int) + 1 := by omega
            by_cases hb : bu a i = bu b j
            · have q2 : (((bu a i).toNat : Int) == ((bu b j).toNat : Int)) = true := by rw [hb]; simp
              have HS := Lib.hid (HE.out.step (v := 1 + lc (a.drop (i + 1)) (b.drop (j + 1))) (by omega) (lc_eq hlia (by omega) hb).symm)
              have p15 : IntKind.i64.wrap (1 + (lc (a.drop (i + 1)) (b.drop (j + 1)) : Int)) = ((1 + lc (a.drop (i + 1)) (b.drop (j + 1)) : Nat) : Int) := by rw [i64_in _ (by omega)]; omega
              clear hb HE c4 c5 b1
              generalize 1 + lc (a.drop (i + 1)) (b.drop (j + 1)) = z at *
              generalize lc (a.drop (i + 1)) (b.drop (j + 1)) = z1 at *
              go_wp2_with fail
              go_quiet (fail)
              go_wp2_with fail
              have HB1 : Hid (Below w.heap.size w (wr.drewN nq)) := Lib.hid (below_drewN HB.out _)
              have HBa : Hid (Blk (wr.drewN nq) r 3 (E.map (Value.int .i64))) := HBr
              have HBb : Hid (Blk (wr.drewN nq) r1 3 (E1.map (Value.int .i64))) := HBr1
              have HBc : Hid (Blk (wr.drewN nq) g 28 V2) := HBg
              have k1 : (wr.drewN nq).cell? ⟨g, i, none⟩ = some (.slice (some ⟨r, 0, none⟩) (b.length + 1) (b.length + 1)) := c1
              have k2 : (wr.drewN nq).cell? ⟨g, i + 1, none⟩ = some (.slice (some ⟨r1, 0, none⟩) (b.length + 1) (b.length + 1)) := c2
              have k3 : (wr.drewN nq).cell? ⟨r1, j + 1, none⟩ = some (.int .i64 (z1 : Int)) := c3
              have k6 : (wr.drewN nq).cell? ⟨r, j, none⟩ = some (.int .i64 (gi E j)) := c6
              have k7 : (wr.drewN nq).frozen? ⟨r, j, none⟩ = false := c7
              clear HB HBr HBr1 HBg c1 c2 c6 c7 c3
              generalize wr.drewN nq = wq at *
              go_still_tail 16, (by kernel_rfl)
              change wpList _ _ _ _ _ wq.drew
              have HBr' : Hid (Blk wq.drew r 3 (E.map (Value.int .i64))) := HBa
              have HBr1' : Hid (Blk wq.drew r1 3 (E1.map (Value.int .i64))) := HBb
              have HBg' : Hid (Blk wq.drew g 28 V2) := HBc
              have HB' : Hid (Below w.heap.size w wq.drew) := Lib.hid (below_drewN HB1.out 1)
              have c6' : wq.drew.cell? ⟨r, j, none⟩ = some (.int .i64 (gi E j)) := k6
              have c7' : wq.drew.frozen? ⟨r, j, none⟩ = false := k7
              generalize wq.drew = wt at *
              go_wp2_with fail
              have HBr2 := Lib.hid (blk_set (k := j) (v := (z : Int)) HBr'.out)
              have HBr12 := Lib.hid (HBr1'.out.far (p := ⟨r, j, none⟩) HRR.out.1 (.int .i64 (z : Int)))
              have HBg2 := Lib.hid (HBg'.out.far (p := ⟨r, j, none⟩) HRR.out.2.1 (.int .i64 (z : Int)))
              have HB2 := Lib.hid (HB'.out.setCell (p := ⟨r, j, none⟩) HRR.out.2.2 (.int .i64 (z : Int)))
              go_roundg j
              case measure => omega
              case rel => exact ⟨(j : Int) - 1, _, rfl, rfl, by omega, HS, HBr2, HBr12, HBg2, HB2⟩
            · have q2 : (((bu a i).toNat : Int) == ((bu b j).toNat : Int)) = false := by simp; intro h; exact hb (UInt8.toNat.inj (by omega))
              have HS := Lib.hid (HE.out.step (v := max (lc (a.drop (i + 1)) (b.drop j)) (lc (a.drop i) (b.drop (j + 1)))) (by omega) (lc_ne hlia (by omega) hb).symm)
              have hmx := fun W ts t => max2n (P := Tryd.prog) (w := W) ts t .i64 .i64 (lc (a.drop (i + 1)) (b.drop j)) (lc (a.drop i) (b.drop (j + 1)))
              clear hb HE c3 b1
              generalize max (lc (a.drop (i + 1)) (b.drop j)) (lc (a.drop i) (b.drop (j + 1))) = z at *
              generalize lc (a.drop (i + 1)) (b.drop j) = z1 at *
              generalize lc (a.drop i) (b.drop (j + 1)) = z2 at *
              go_wp2_with fail
              go_quiet (fail)
              go_wp2_with fail
              have HB1 : Hid (Below w.heap.size w (wr.drewN nq)) := Lib.hid (below_drewN HB.out _)
              have HBa : Hid (Blk (wr.drewN nq) r 3 (E.map (Value.int .i64))) := HBr
              have HBb : Hid (Blk (wr.drewN nq) r1 3 (E1.map (Value.int .i64))) := HBr1
              have HBc : Hid (Blk (wr.drewN nq) g 28 V2) := HBg
              have k1 : (wr.drewN nq).cell? ⟨g, i, none⟩ = some (.slice (some ⟨r, 0, none⟩) (b.length + 1) (b.length + 1)) := c1
              have k2 : (wr.drewN nq).cell? ⟨g, i + 1, none⟩ = some (.slice (some ⟨r1, 0, none⟩) (b.length + 1) (b.length + 1)) := c2
              have k4 : (wr.drewN nq).cell? ⟨r1, j, none⟩ = some (.int .i64 (z1 : Int)) := c4
              have k5 : (wr.drewN nq).cell? ⟨r, j + 1, none⟩ = some (.int .i64 (z2 : Int)) := c5
              have k6 : (wr.drewN nq).cell? ⟨r, j, none⟩ = some (.int .i64 (gi E j)) := c6
              have k7 : (wr.drewN nq).frozen? ⟨r, j, none⟩ = false := c7
              clear HB HBr HBr1 HBg c1 c2 c6 c7 c4 c5
              generalize wr.drewN nq = wq at *
              go_still_tail 23, (by kernel_rfl)
              change wpList _ _ _ _ _ wq.drew
              have HBr' : Hid (Blk wq.drew r 3 (E.map (Value.int .i64))) := HBa
              have HBr1' : Hid (Blk wq.drew r1 3 (E1.map (Value.int .i64))) := HBb
              have HBg' : Hid (Blk wq.drew g 28 V2) := HBc
              have HB' : Hid (Below w.heap.size w wq.drew) := Lib.hid (below_drewN HB1.out 1)
              have c6' : wq.drew.cell? ⟨r, j, none⟩ = some (.int .i64 (gi E j)) := k6
              have c7' : wq.drew.frozen? ⟨r, j, none⟩ = false := k7
              generalize wq.drew = wt at *
              go_wp2_with fail
              have HBr2 := Lib.hid (blk_set (k := j) (v := (z : Int)) HBr'.out)
              have HBr12 := Lib.hid (HBr1'.out.far (p := ⟨r, j, none⟩) HRR.out.1 (.int .i64 (z : Int)))
              have HBg2 := Lib.hid (HBg'.out.far (p := ⟨r, j, none⟩) HRR.out.2.1 (.int .i64 (z : Int)))
              have HB2 := Lib.hid (HB'.out.setCell (p := ⟨r, j, none⟩) HRR.out.2.2 (.int .i64 (z : Int)))
              go_roundg j
              case measure => omega
              case rel => exact ⟨(j : Int) - 1, _, rfl, rfl, by omega, HS, HBr2, HBr12, HBg2, HB2⟩
          · obtain rfl : gk = 0 := by omega
            obtain rfl : v = -1 := by omega
            have m1 : ¬ (0 : Int) ≤ -1 := by decide
            clear hv
            have HV4 : Hid (V2.length = a.length + 1 ∧ (i ≤ a.length → ∃ r E, V2[i]? = some (.slice (some ⟨r, 0, none⟩) (b.length + 1) (b.length + 1)) ∧ Blk wr r 3 (E.map (Value.int .i64)) ∧ Rl a b i 0 E)) := Lib.hid ⟨HV2.out.1, fun _ => ⟨r, E, HV2.out.2, HBr.out, HE.out⟩⟩
            clear HV2 HV3 HBr HBr1 HE HR1
            go_wp2_with fail
            go_roundg i
            case measure => omega
            case rel => exact ⟨(i : Int) - 1, V2, rfl, rfl, by omega, HV4, HBg, HB⟩
    · obtain rfl : gk = 0 := by omega
      obtain rfl : v = -1 := by omega
      have m1 : ¬ (0 : Int) ≤ -1 := by decide
      clear hv
      obtain ⟨r, E, hV, hE, hR⟩ := HV.out.2 (by omega)
      have c1 := slice_cell HBK.out hV
      have c2 : wr.cell? ⟨r, 0, none⟩ = some (.int .i64 (lc a b : Int)) := row_cell hE (by rw [hR.1]; omega) (by have := hR.2 0 (Nat.le_refl _) (by omega); simpa using this)
      clear HV hV hE hR
      go_wp2_with fail
      go_ret
      exact ⟨⟨g, rfl, r, c1, c2⟩, HB.out⟩

set_option maxHeartbeats 1000000 in
theorem long_any (a b : List UInt8) (w : World) (ha24 : a.length ≤ 24) (hb24 : b.length ≤ 24) :
    Calls Tryd.prog 6 #[S a, S b] w fun e w' => e = .returned (.tuple #[.int .i64 (lc a b : Int), .nilIface]) ∧ Below w.heap.size w w' := by
  have HL := Lib.hid (long2_no 24 a b (w.alloc (.cells #[S a, S b] 9)) w.heap.size 0 (cell_of_row _ _ 0 #[S a, S b] 9 (0, 0) (heap_alloc_new w _)) (cell_of_row _ _ 1 #[S a, S b] 9 (0, 0) (heap_alloc_new w _)) (by omega) (by omega))
  have HB0 := Lib.hid ((Below.refl _ w).alloc (Nat.le_refl _) (.cells #[S a, S b] 9))
  go_enter Tryd.func6, Tryd.ntmps6
  go_wp2_with fail
  refine HL.out.mono ?_
  rintro e w' ⟨rfl, rfl⟩
  rw [show errV 0 = .nilIface from rfl]
  generalize w.alloc (.cells #[S a, S b] 9) = w0 at *
  clear HL
  go_wp2_with fail
  refine (table_any a b w0 ha24 hb24).mono ?_
  rintro e w1 ⟨⟨g, r, rfl, c1, c2⟩, hb1⟩
  have HB1 := Lib.hid (HB0.out.trans (hb1.mono HB0.out.size))
  clear hb1
  have p1 : (0 : Int) < (a.length : Int) + 1 := by omega
  have p2 : (0 : Int) < (b.length : Int) + 1 := by omega
  go_wp2_with fail
  go_ret2
  exact ⟨rfl, HB1.out⟩
end Go.Proofs.YtgmmlblefealjaaDoor
