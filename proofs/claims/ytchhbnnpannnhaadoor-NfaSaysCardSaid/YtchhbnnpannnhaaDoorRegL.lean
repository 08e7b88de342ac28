/- Package re's Leaves and Signs: their walks. No condition. -/
import Derived.Test.YtchhbnnpannnhaaDoorRegQ
import Derived.Test.YtchhbnnpannnhaaDoorSortB
import Derived.Lib.AppendZerosOnto
import Derived.Laws.AppendOwnNone
namespace Go.Proofs.YtchhbnnpannnhaaDoor
open Go.RowKit Go.Lib Go.Sort IntWalk
attribute [local go_sem] byte_at str_app

theorem info_byteL : (Tryd.prog.info? 5).map (fun i => (i.zero, i.size, i.bytes)) = some (some (.int .u8 0), 1, 1) := by kernel_rfl
def bcells (l : List UInt8) : List Value := l.map encB
theorem bcells_len (l : List UInt8) : (bcells l).length = l.length := by simp [bcells]
theorem bcells_app (a b : List UInt8) : bcells (a ++ b) = bcells a ++ bcells b := by simp [bcells]
/-- A row of bytes of the call's own. -/
abbrev OwnB (w : World) (base : Nat) (v : Value) (l : List UInt8) : Prop := w.ownsRow base 5 1 v l.length (bcells l)
theorem OwnB.keep {w w' : World} {base B : Nat} {v : Value} {l : List UInt8} (h : OwnB w base v l) (hb : Below B w w') (hB : w.heap.size ≤ B) : OwnB w' base v l := own_below h hb hB
theorem OwnB.base_ {w : World} {base base' : Nat} {v : Value} {l : List UInt8} (h : OwnB w base v l) (hB : base' ≤ base) : OwnB w base' v l := by
  refine ⟨h.1, ?_⟩
  rcases h.2 with h2 | ⟨g, cap, cur, hv, hg, r⟩
  · exact .inl h2
  · exact .inr ⟨g, cap, cur, hv, Nat.le_trans hB hg, r⟩
/-- append(s, x...) of two such rows. -/
theorem wpList_appendB {P : Program} {w : World} {ops : Array Oper} {rest : List Oper} {o : Oper} {a : Act} {Q : Exit → Act → World → Prop} (hgd : o.guard = none) (s x : Operand) (t : TypeId)
    (ho : o.op = .call { callee := .builtin .append, args := #[s, x], argTypes := #[t, t] }) (e : TypeId) (i : TypeInfo) (z : Value) (ht : P.underlying t = some (.slice e)) (hi : P.info? e = some i) (hz : i.zero = some z)
    (hsize : i.size = 1) (hby : i.bytes ≤ 64) (hzs : z.cells.size = 1) (base base2 : Nat) (v xv : Value) (l l2 : List UInt8) (hs : a.eval s = v)
    (hx : a.eval x = xv) (hown : w.ownsRow base e 1 v l.length (bcells l)) (hown2 : w.ownsRow base2 e 1 xv l2.length (bcells l2)) (hlen : l.length + l2.length ≤ 1000000) (hbase : base ≤ w.heap.size)
    (h : ∀ v' w', w'.ownsRow base e 1 v' (l ++ l2).length (bcells (l ++ l2)) → Below base w w' → wpList P ops Q rest (a.put o.dst v') w') : wpList P ops Q (o :: rest) a w := by
  have hbytes : (l.length + l2.length) * i.bytes ≤ 140737488355328 := by
    have h1 : (l.length + l2.length) * i.bytes ≤ 1000000 * 64 := Nat.mul_le_mul (by omega) hby
    omega
  rcases hown2.2 with ⟨hv, h0⟩ | ⟨g, cap, cur, hv, hb, hg, _⟩
  · have : l2 = [] := List.length_eq_zero_iff.1 h0
    subst this
    refine wpList_append_own_none hgd s x t ho base e i 1 ht hi v l.length (bcells l) hs hown (hx.trans hv) ?_
    exact h v w (by rw [List.append_nil]; exact hown) (Below.refl _ _)
  · subst hv
    refine wpList_append_own (P := P) w hgd s x t ho base e i z 1 i.bytes ht hi hz hsize rfl hzs (by omega) v l.length (bcells l) hs hown ⟨g, 0, none⟩ l2.length cap (bcells l2) hx (by rw [bcells_len]; omega) ?_ ?_ ?_ hbytes hbase ?_
    · intro j u hj
      exact hown2.cells (g := g) rfl j u hj
    · intro u hu
      obtain ⟨c, _, rfl⟩ := List.mem_map.1 hu
      rfl
    · simp only [maxLen]; omega
    · intro v' w' h1 h2 _
      refine h v' w' (by rw [List.length_append, bcells_app]; exact h1) ((Below.refl base w).grown h2 hbase (fun k hk => own_lt hown hk))

set_option maxRecDepth 100000 in
set_option maxHeartbeats 1000000 in
theorem grow_any (n : Nat) (w : World) (hn : n ≤ 100) :
    Calls Tryd.prog 44 #[.slice none 0 0, .int .i64 (n : Int)] w fun e w' => (∃ v, e = .returned v ∧ OwnB w' w.heap.size v []) ∧ Below w.heap.size w w' := by
  obtain ⟨i0, hi, hz0, hz1, hz2⟩ := info_parts info_byteL
  rcases Nat.eq_zero_or_pos n with rfl | hp
  · go_enter Tryd.func44, Tryd.ntmps44
    go_wp2_with fail
    go_ret
    exact ⟨⟨_, rfl, World.ownsRow_nil _ _ _ _⟩, Below.refl _ _⟩
  · have h3 : IntKind.i64.wrap ((n : Int) - 0) = (n : Int) := by rw [i64_in _ (by omega)]; omega
    have h4 : IntKind.i64.wrap (n : Int) = (n : Int) := i64_in _ (by omega)
    have h5 : (0 : Int) < (n : Int) := by omega
    have h6 : ¬ (n : Int) < 0 := by omega
    have hrz : ∀ ty, (Builtin.append_ #[54, 3] ty #[.slice none 0 0, .int .i64 (n : Int)]).run Tryd.prog w =
        .ok (.slice (some ⟨w.heap.size, 0, none⟩) n (grownCap w n 0 5)) (w.drew.alloc (.cells (#[] ++ Builtin.zeroCells (Value.int .u8 0).cells n ++ Builtin.zeroCells (Value.int .u8 0).cells (grownCap w n 0 5 - n)) 5)) := fun ty => by
      have h := Lib.run_append_grow_zeros (P := Tryd.prog) w 54 3 ty 5 i0 (.int .u8 0) .i64 .i64 Tryd.underlying54 Tryd.underlying3 hi hz0 none 0 0 [] (by rw [hz1]; exact run_firstCells_none w.drew 1 0 0 0) n hp (by omega) (by omega) (by omega)
        (by rw [hz2]; omega) (by rw [Nat.zero_add]; exact growslice_fits (by omega) (by rw [hz2]; omega))
      simpa using h
    have hGn : n ≤ grownCap w n 0 5 := grownCap_ge w _ _ _
    have hG2 : grownCap w n 0 5 ≤ maxLen := grownCap_le_maxLen w n 0 5 (by unfold maxLen; omega)
    generalize grownCap w n 0 5 = G at *
    have hG63 : G ≤ 9223372036854775807 := by unfold maxLen at hG2; omega
    have HOB : Hid (OwnB (w.drew.alloc (.cells (#[] ++ Builtin.zeroCells (Value.int .u8 0).cells n ++ Builtin.zeroCells (Value.int .u8 0).cells (G - n)) 5)) w.heap.size (.slice (some ⟨w.heap.size, 0, none⟩) 0 G) []) := Lib.hid ⟨rfl, .inr ⟨w.heap.size, G, _, rfl, Nat.le_refl _, heap_alloc_new w.drew _, Nat.zero_le _, hG2, by simp [size_zeroCells, Value.cells]; omega, by simp [bcells]⟩⟩
    have HBL : Hid (Below w.heap.size w (w.drew.alloc (.cells (#[] ++ Builtin.zeroCells (Value.int .u8 0).cells n ++ Builtin.zeroCells (Value.int .u8 0).cells (G - n)) 5))) := Lib.hid ((Below.drew (Below.refl _ w)).alloc (Nat.le_refl _) _)
    generalize w.drew.alloc (.cells (#[] ++ Builtin.zeroCells (Value.int .u8 0).cells n ++ Builtin.zeroCells (Value.int .u8 0).cells (G - n)) 5) = w1 at *
    go_enter Tryd.func44, Tryd.ntmps44
    go_wp2_with (at_builtin; refine Lib.wpList_append_run _ rfl _ _ _ _ rfl _ _ rfl rfl _ _ (hrz _) ?_)
    go_ret
    exact ⟨⟨_, rfl, HOB.out⟩, HBL.out⟩

set_option maxRecDepth 100000 in
set_option maxHeartbeats 2000000 in
theorem concat_any (v1 v2 : Value) (l1 l2 : List UInt8) (base b : Nat) (w : World) (h1 : OwnB w base v1 l1) (h2 : OwnB w base v2 l2) (hc0 : w.cell? ⟨b, 0, none⟩ = some v1) (hc1 : w.cell? ⟨b, 1, none⟩ = some v2) (hl : l1.length + l2.length ≤ 100) :
    Calls Tryd.prog 34 #[.slice (some ⟨b, 0, none⟩) 2 2] w fun e w' => (∃ v, e = .returned v ∧ OwnB w' w.heap.size v (l1 ++ l2)) ∧ Below w.heap.size w w' := by
  obtain ⟨i0, hi, hz0, hz1, hz2⟩ := info_parts info_byteL
  have H1 := Lib.hid h1; have H2 := Lib.hid h2
  obtain ⟨A1, c1, rfl, _⟩ := own_shape h1
  obtain ⟨A2, c2, rfl, _⟩ := own_shape h2
  have hb : b < w.heap.size := World.block_lt_of_cell? w ⟨b, 0, none⟩ hc0
  clear h1 h2
  generalize hn1 : l1.length = n1 at *
  generalize hn2 : l2.length = n2 at *
  have f0 : IntKind.i64.wrap (0 + (n1 : Int)) = (n1 : Int) := by rw [i64_in _ (by omega)]; omega
  have f0' : IntKind.i64.wrap (n1 : Int) = (n1 : Int) := i64_in _ (by omega)
  have f1 : IntKind.i64.wrap ((n1 : Int) + (n2 : Int)) = ((n1 + n2 : Nat) : Int) := by rw [i64_in _ (by omega)]; omega
  have f2 : ¬ (n1 : Int) < 0 := by omega
  have f3 : ¬ ((n1 + n2 : Nat) : Int) < 0 := by omega
  have f4 : ¬ (n1 : Int) + (n2 : Int) < 0 := by omega
  have HG := Lib.hid (grow_any (n1 + n2) w hl)
  have HN1 := Lib.hid hn1; have HN2 := Lib.hid hn2
  clear hn1 hn2
  go_enter Tryd.func34, Tryd.ntmps34
  go_wp2_with fail
  refine wp_loop_rounds 3 ?_
  rw [rounds_succ]
  go_wp2_with fail
  rw [rounds_succ]
  go_wp2_with fail
  rw [rounds_succ]
  go_wp2_with fail
  refine HG.out.mono ?_
  rintro e w1 ⟨⟨v, rfl, ho⟩, hb1⟩
  have HO := Lib.hid ho
  have HB := Lib.hid hb1
  obtain ⟨A3, c3, rfl, _⟩ := own_shape ho
  replace hc0 := (hb1.cell (p := ⟨b, 0, none⟩) hb).trans hc0
  replace hc1 := (hb1.cell (p := ⟨b, 1, none⟩) hb).trans hc1
  clear ho hb1 f0 f0' f1 f2 f3 f4
  go_wp2_with fail
  refine wp_loop_rounds 3 ?_
  rw [rounds_succ]
  go_wp2_with (at_builtin; refine wpList_appendB rfl (.tmp 31) (.tmp 32) _ rfl 5 i0 _ Tryd.underlying54 hi hz0 hz1 (by omega) rfl w.heap.size base (.slice A3 0 c3) (.slice A1 n1 c1) [] l1 rfl rfl HO.out (H1.out.keep HB.out (Nat.le_refl _)) (by have := HN1.out; simp; omega) HB.out.size ?_; intro v4 w4 ho4 hb4)
  have HO4 := Lib.hid ho4
  have HB4 := Lib.hid (HB.out.trans hb4)
  obtain ⟨A4, c4, rfl, _⟩ := own_shape ho4
  replace hc0 := (hb4.cell (p := ⟨b, 0, none⟩) hb).trans hc0
  replace hc1 := (hb4.cell (p := ⟨b, 1, none⟩) hb).trans hc1
  clear ho4 hb4
  go_wp2_with fail
  rw [rounds_succ]
  go_wp2_with (at_builtin; refine wpList_appendB rfl (.tmp 31) (.tmp 32) _ rfl 5 i0 _ Tryd.underlying54 hi hz0 hz1 (by omega) rfl w.heap.size base (.slice A4 _ c4) (.slice A2 n2 c2) ([] ++ l1) l2 rfl rfl HO4.out (H2.out.keep HB4.out (Nat.le_refl _)) (by have := HN1.out; have := HN2.out; simp; omega) HB4.out.size ?_; intro v5 w5 ho5 hb5)
  have HO5 := Lib.hid ho5
  have HB5 := Lib.hid (HB4.out.trans hb5)
  obtain ⟨A5, c5, rfl, _⟩ := own_shape ho5
  clear ho5 hb5 hc0 hc1
  go_wp2_with fail
  rw [rounds_succ]
  go_wp2_with fail
  go_ret
  exact ⟨⟨_, rfl, HO5.out⟩, HB5.out⟩
end Go.Proofs.YtchhbnnpannnhaaDoor
