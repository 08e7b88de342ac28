/- The document's reading of a pattern: with, next, row, part, either, Read: their walks. No condition. -/
import Derived.Test.YtchhbnnpannnhaaDoorRegW
import Derived.Test.YtchhbnnpannnhaaDoorRegS
import Derived.Laws.AppendOwnNone
namespace Go.Proofs.YtchhbnnpannnhaaDoor
open Go.RowKit IntWalk
attribute [local go_sem] byte_at str_app

/-- A node of the document's. -/
structure N4 where
  k : Int
  c : UInt8
  l : Nat
  r : Nat
abbrev ncs (x : N4) : List Value := [.int .i64 x.k, .int .u8 (x.c.toNat : Int), .int .i64 (x.l : Int), .int .i64 (x.r : Int)]
def ncells (xs : List N4) : List Value := xs.flatMap ncs
theorem ncells_len (xs : List N4) : (ncells xs).length = xs.length * 4 := by
  induction xs with
  | nil => rfl
  | cons x xs ih => unfold ncells at *; rw [List.flatMap_cons, List.length_append, ih]; simp; omega
theorem ncells_app (a b : List N4) : ncells (a ++ b) = ncells a ++ ncells b := by unfold ncells; rw [List.flatMap_append]
/-- The value v reads as the nodes xs, in blocks from base on. -/
abbrev NV (w : World) (base : Nat) (v : Value) (xs : List N4) : Prop := w.ownsRow base 72 4 v xs.length (ncells xs)
theorem NV.keep {w w' : World} {base B : Nat} {v : Value} {xs : List N4} (h : NV w base v xs) (hb : Below B w w') (hB : w.heap.size ≤ B) : NV w' base v xs := own_below h hb hB
theorem NV.zero {w : World} {base : Nat} {v : Value} {xs : List N4} (h : NV w base v xs) : NV w 0 v xs := by
  refine ⟨h.1, ?_⟩
  rcases h.2 with h2 | ⟨g, cap, cur, hv, hg, r⟩
  · exact .inl h2
  · exact .inr ⟨g, cap, cur, hv, Nat.zero_le _, r⟩
theorem NV.far {w w' : World} {base : Nat} {v : Value} {xs : List N4} (h : NV w base v xs) (hk : ∀ g, base ≤ g → w'.heap[g]? = w.heap[g]?) : NV w' base v xs := by
  refine ⟨h.1, ?_⟩
  rcases h.2 with h2 | ⟨g, cap, cur, hv, hg, hh, r⟩
  · exact .inl h2
  · exact .inr ⟨g, cap, cur, hv, hg, (hk g hg).trans hh, r⟩
theorem info_node : (Tryd.prog.info? 72).map (fun i => (i.zero, i.size, i.bytes)) = some (some (.agg #[.int .i64 0, .int .u8 0, .int .i64 0, .int .i64 0]), 4, 32) := by kernel_rfl
/-- append of a row of nodes onto another one of the call's own. -/
theorem wpList_appendN {P : Program} {w : World} {ops : Array Oper} {rest : List Oper} {o : Oper} {a : Act} {Q : Exit → Act → World → Prop} (hgd : o.guard = none) (s x : Operand) (t : TypeId)
    (ho : o.op = .call { callee := .builtin .append, args := #[s, x], argTypes := #[t, t] }) (e : TypeId) (i : TypeInfo) (z : Value) (ht : P.underlying t = some (.slice e)) (hi : P.info? e = some i) (hz : i.zero = some z)
    (hsize : i.size = 4) (hby : i.bytes ≤ 64) (hzs : z.cells.size = 4) (base base2 : Nat) (v xv : Value) (l l2 : List N4) (hs : a.eval s = v)
    (hx : a.eval x = xv) (hown : w.ownsRow base e 4 v l.length (ncells l)) (hown2 : w.ownsRow base2 e 4 xv l2.length (ncells l2)) (hlen : l.length + l2.length ≤ 1000) (hbase : base ≤ w.heap.size)
    (h : ∀ v' w', w'.ownsRow base e 4 v' (l ++ l2).length (ncells (l ++ l2)) → Below base w w' → wpList P ops Q rest (a.put o.dst v') w') : wpList P ops Q (o :: rest) a w := by
  have hbytes : (l.length + l2.length) * i.bytes ≤ 140737488355328 := by
    have h1 : (l.length + l2.length) * i.bytes ≤ 1000 * 64 := Nat.mul_le_mul (by omega) hby
    omega
  rcases hown2.2 with ⟨hv, h0⟩ | ⟨g, cap, cur, hv, hb, hg, _⟩
  · have : l2 = [] := List.length_eq_zero_iff.1 h0
    subst this
    refine wpList_append_own_none hgd s x t ho base e i 4 ht hi v l.length (ncells l) hs hown (hx.trans hv) ?_
    exact h v w (by rw [List.append_nil]; exact hown) (Below.refl _ _)
  · subst hv
    refine wpList_append_own (P := P) w hgd s x t ho base e i z 4 i.bytes ht hi hz hsize rfl hzs (by omega) v l.length (ncells l) hs hown ⟨g, 0, none⟩ l2.length cap (ncells l2) hx (by rw [ncells_len]) ?_ ?_ ?_ hbytes hbase ?_
    · intro j u hj
      exact hown2.cells (g := g) rfl j u hj
    · intro u hu
      obtain ⟨c, _, hc⟩ := List.mem_flatMap.1 hu
      simp only [ncs, List.mem_cons, List.not_mem_nil, or_false] at hc
      rcases hc with rfl | rfl | rfl | rfl <;> rfl
    · simp only [maxLen]; omega
    · intro v' w' h1 h2 _
      refine h v' w' (by rw [List.length_append, ncells_app]; exact h1) ((Below.refl base w).grown h2 hbase (fun k hk => own_lt hown hk))
theorem own_node (w : World) (x : N4) : NV (w.alloc (.cells #[.int .i64 x.k, .int .u8 (x.c.toNat : Int), .int .i64 (x.l : Int), .int .i64 (x.r : Int)] 72)) w.heap.size (.slice (some ⟨w.heap.size, 0, none⟩) 1 1) [x] :=
  ⟨rfl, .inr ⟨w.heap.size, 1, _, rfl, Nat.le_refl _, heap_alloc_new w _, Nat.le_refl _, by simp [maxLen], rfl, rfl⟩⟩
abbrev PV (v : Value) (l : List UInt8) (b : Bool) (k : Nat) : Value := .agg #[v, S l, .bool b, .int .i64 (k : Int)]
abbrev pObj (v : Value) (l : List UInt8) (b : Bool) (k : Nat) : Obj := .cells #[v, S l, .bool b, .int .i64 (k : Int)] 24
abbrev ndV (x : N4) : Value := .agg #[.int .i64 x.k, .int .u8 (x.c.toNat : Int), .int .i64 (x.l : Int), .int .i64 (x.r : Int)]
theorem four_at {w : World} {g : Nat} {a b c d : Value} {t : TypeId} (h : w.heap[g]? = some (.cells #[a, b, c, d] t)) : w.cell? ⟨g, 0, none⟩ = some a ∧ w.cell? ⟨g, 1, none⟩ = some b ∧ w.cell? ⟨g, 2, none⟩ = some c ∧ w.cell? ⟨g, 3, none⟩ = some d ∧ w.frozen? ⟨g, 0, none⟩ = false ∧ w.frozen? ⟨g, 1, none⟩ = false ∧ w.frozen? ⟨g, 2, none⟩ = false ∧ w.frozen? ⟨g, 3, none⟩ = false :=
  ⟨by rw [cell_of_row w g 0 _ _ (0, 0) h]; rfl, by rw [cell_of_row w g 1 _ _ (0, 0) h]; rfl, by rw [cell_of_row w g 2 _ _ (0, 0) h]; rfl, by rw [cell_of_row w g 3 _ _ (0, 0) h]; rfl, Lib.frozen_of_heap h 0, Lib.frozen_of_heap h 1, Lib.frozen_of_heap h 2, Lib.frozen_of_heap h 3⟩
theorem res_cell1 {P : Program} {fn : Func} {p : Tmp} {ty : TypeId} (h : fn.results = #[.cell p ty]) (tmps : Array Value) (w : World) (g : Nat) (t : TypeId) (cs : Array Value) (fr : Nat × Nat) (d : TypeDesc)
    (hp : tmps.getD p undef = .pointer (some ⟨g, 0, none⟩)) (hg : w.heap[g]? = some (.cells cs t fr))
    (hu : P.underlying ty = some d) (hd : (match d with | .struct _ | .array _ _ => true | _ => false) = true) (hi : (P.info? ty).map (·.size) = some cs.size) :
    (results fn tmps).run P w = .ok (.agg cs) w := by
  have hp' : tmps[p]?.getD undef = .pointer (some ⟨g, 0, none⟩) := by simpa using hp
  simp [results, h, hp', asAddr, run_loadVar_row w g t ty cs fr d hg hu hd hi]
theorem set4 {w : World} {g : Nat} {a b c d x y z u : Value} {t : TypeId} (h : w.heap[g]? = some (.cells #[a, b, c, d] t)) : ((((w.setCell ⟨g, 0, none⟩ x).setCell ⟨g, 1, none⟩ y).setCell ⟨g, 2, none⟩ z).setCell ⟨g, 3, none⟩ u).heap[g]? = some (.cells #[x, y, z, u] t) := by
  simp [World.setCell, Array.getElem?_modify, h]
theorem set4_other {w : World} {g k : Nat} (h : k ≠ g) (x y z u : Value) : ((((w.setCell ⟨g, 0, none⟩ x).setCell ⟨g, 1, none⟩ y).setCell ⟨g, 2, none⟩ z).setCell ⟨g, 3, none⟩ u).heap[k]? = w.heap[k]? :=
  (Below.heap_setCell _ _ _ k h).trans ((Below.heap_setCell _ _ _ k h).trans ((Below.heap_setCell _ _ _ k h).trans (Below.heap_setCell _ _ _ k h)))
theorem below_set4 {w w4 : World} {B g : Nat} (h : Below B w w4) (hg : B ≤ g) (x y z u : Value) : Below B w ((((w4.setCell ⟨g, 0, none⟩ x).setCell ⟨g, 1, none⟩ y).setCell ⟨g, 2, none⟩ z).setCell ⟨g, 3, none⟩ u) :=
  (((h.setCell (p := ⟨g, 0, none⟩) hg _).setCell (p := ⟨g, 1, none⟩) hg _).setCell (p := ⟨g, 2, none⟩) hg _).setCell (p := ⟨g, 3, none⟩) hg _
theorem alloc3_1 (w : World) (a b c : Obj) : ((((w.alloc a).alloc b).alloc c).heap[w.heap.size]? = some a) ∧ ((((w.alloc a).alloc b).alloc c).heap[w.heap.size + 1]? = some b) ∧ ((((w.alloc a).alloc b).alloc c).heap[w.heap.size + 1 + 1]? = some c) ∧ ((((w.alloc a).alloc b).alloc c).heap.size = w.heap.size + 3) ∧ Below w.heap.size w (((w.alloc a).alloc b).alloc c) := by
  have e1 : (w.alloc a).heap.size = w.heap.size + 1 := by simp
  have e2 : ((w.alloc a).alloc b).heap.size = w.heap.size + 1 + 1 := by simp
  refine ⟨?_, ?_, ?_, by simp, (((Below.refl _ w).alloc (Nat.le_refl _) _).alloc (by simp) _).alloc (by simp; omega) _⟩
  · rw [Lib.alloc_old _ c _ (by rw [e2]; omega), Lib.alloc_old _ b _ (by rw [e1]; omega)]; exact heap_alloc_new w a
  · rw [Lib.alloc_old _ c _ (by rw [e2]; omega), ← e1]; exact heap_alloc_new (w.alloc a) b
  · rw [← e2]; exact heap_alloc_new ((w.alloc a).alloc b) c
set_option maxRecDepth 100000 in
set_option maxHeartbeats 4000000 in
theorem with_any (v : Value) (xs : List N4) (l : List UInt8) (b : Bool) (k : Nat) (x : N4) (w : World) (hv : NV w 0 v xs) (hn : xs.length ≤ 500) :
    Calls Tryd.prog 27 #[PV v l b k, ndV x] w fun e w' => (∃ v', e = .returned (PV v' l b xs.length) ∧ NV w' 0 v' (xs ++ [x])) ∧ Below w.heap.size w w' := by
  obtain ⟨i0, hi, hz0, hz1, hz2⟩ := info_parts info_node
  have HV := Lib.hid hv
  obtain ⟨A1, c1, rfl, _⟩ := own_shape hv
  clear hv
  go_enter Tryd.func27, Tryd.ntmps27
  go_upto_region 2 with fail
  have h1 := alloc3_1 w (pObj (.slice A1 xs.length c1) l b k) (.cells #[.int .i64 x.k, .int .u8 (x.c.toNat : Int), .int .i64 (x.l : Int), .int .i64 (x.r : Int)] 72) (pObj (.slice none 0 0) [] false 0)
  obtain ⟨h1, h2, h3, hz, hB⟩ := h1
  have HVW := Lib.hid (HV.out.keep hB (Nat.le_refl _))
  generalize ((w.alloc (pObj (.slice A1 xs.length c1) l b k)).alloc (.cells #[.int .i64 x.k, .int .u8 (x.c.toNat : Int), .int .i64 (x.l : Int), .int .i64 (x.r : Int)] 72)).alloc (pObj (.slice none 0 0) [] false 0) = W at *
  have HB := Lib.hid hB; have H1 := Lib.hid h1; have H2 := Lib.hid h2; have H3 := Lib.hid h3
  obtain ⟨a0, a1, a2, a3, z0, z1, z2, z3⟩ := four_at h1
  clear h1 h2 h3 hB HV
  have tok1 : True := trivial
  go_wp2_with (first
    | (at_builtin; have _t := tok1; refine wpList_appendN rfl (.tmp 6) (.tmp 8) _ rfl 72 i0 _ Tryd.underlying22 hi hz0 hz1 (by omega) rfl W.heap.size 0 (.slice none 0 0) (.slice A1 xs.length c1) [] xs rfl rfl (World.ownsRow_nil _ _ _ _) HVW.out (by simp; omega) (Nat.le_refl _) ?_; intro v4 w4 ho4 hb4; clear tok1 _t a0 a1 a2 a3 z0 z1 z2 z3;
       have HO4 := Lib.hid ho4; have HB4 := Lib.hid (HB.out.trans (hb4.mono HB.out.size)); have g1 := (hb4.block w.heap.size (by omega)).trans H1.out; have g2 := (hb4.block (w.heap.size + 1) (by omega)).trans H2.out; have g3 := (hb4.block (w.heap.size + 1 + 1) (by omega)).trans H3.out; have HG1 := Lib.hid g1; have HG3 := Lib.hid g3; have hz4 := hb4.size;
       obtain ⟨a0, a1, a2, a3, z0, z1, z2, z3⟩ := four_at g1; obtain ⟨b0, b1, b2, b3, y0, y1, y2, y3⟩ := four_at g2; obtain ⟨d0, d1, d2, d3, x0, x1, x2, x3⟩ := four_at g3; obtain ⟨A4, c4, rfl, _⟩ := own_shape ho4; clear ho4 hb4 g1 g2 g3)
    | (at_builtin; refine wpList_appendN rfl (.tmp 10) (.tmp 12) _ rfl 72 i0 _ Tryd.underlying22 hi hz0 hz1 (by omega) rfl W.heap.size w4.heap.size (.slice A4 _ c4) (.slice (some ⟨w4.heap.size, 0, none⟩) 1 1) ([] ++ xs) [x] rfl rfl (NV.keep HO4.out ((Below.refl _ w4).alloc (Nat.le_refl _) _) (Nat.le_refl _)) (own_node w4 x) (by simp; omega) (by simp; omega) ?_; intro v5 w5 ho5 hb5; clear a0 a1 a2 a3 z0 z1 z2 z3 b0 b1 b2 b3 y0 y1 y2 y3 d0 d1 d2 d3 x0 x1 x2 x3;
       have HO5 := Lib.hid ho5; have hb5' := ((Below.refl W.heap.size w4).alloc hz4 (.cells #[.int .i64 x.k, .int .u8 (x.c.toNat : Int), .int .i64 (x.l : Int), .int .i64 (x.r : Int)] 72)).trans hb5; have HB5 := Lib.hid (HB4.out.trans (hb5'.mono HB.out.size)); have g1 := (hb5'.block w.heap.size (by omega)).trans HG1.out; have g3 := (hb5'.block (w.heap.size + 1 + 1) (by omega)).trans HG3.out; have HK1 := Lib.hid g1; have HK3 := Lib.hid g3;
       obtain ⟨a0, a1, a2, a3, z0, z1, z2, z3⟩ := four_at g1; obtain ⟨d0, d1, d2, d3, x0, x1, x2, x3⟩ := four_at g3; obtain ⟨A5, c5, rfl, _⟩ := own_shape ho5; clear ho5 hb5 hb5' g1 g3))
  have hne : w.heap.size + 1 + 1 ≠ w.heap.size := by omega
  have HK6 : ((w5.setCell ⟨w.heap.size, 0, none⟩ (.slice A5 (xs.length + 1) c5)).setCell ⟨w.heap.size, 3, none⟩ (.int .i64 (xs.length : Int))).heap[w.heap.size + 1 + 1]? = some (pObj (.slice none 0 0) [] false 0) :=
    (Below.heap_setCell _ _ _ _ hne).trans ((Below.heap_setCell _ _ _ _ hne).trans HK3.out)
  refine bodyPost_ret (res_cell1 rfl _ _ (w.heap.size + 1 + 1) 24 _ (0, 0) _ rfl (set4 HK6) Tryd.underlying24 rfl (by kernel_rfl)) rfl ?_
  refine ⟨⟨.slice A5 (xs.length + 1) c5, rfl, NV.zero (NV.far (base := W.heap.size) (w := w5) ?_ ?_)⟩, below_set4 ((HB5.out.setCell (p := ⟨w.heap.size, 0, none⟩) (Nat.le_refl _) _).setCell (p := ⟨w.heap.size, 3, none⟩) (Nat.le_refl _) _) (by omega) _ _ _ _⟩
  · have h := HO5.out
    rw [List.nil_append] at h
    rw [show xs.length + 1 = (xs ++ [x]).length by simp]
    exact h
  · intro g hg
    rw [set4_other (by omega)]
    exact (Below.heap_setCell _ _ _ _ (by show g ≠ w.heap.size; omega)).trans (Below.heap_setCell _ _ _ _ (by show g ≠ w.heap.size; omega))
set_option maxHeartbeats 1000000 in
theorem next_any (v : Value) (l : List UInt8) (b : Bool) (k : Nat) (w : World) (A : Option Addr) (n c : Nat) (hv : v = .slice A n c) (hl : l.length ≤ 1000) :
    Calls Tryd.prog 26 #[PV v l b k] w fun e w' => e = .returned (.int .u8 ((bu l 0).toNat : Int)) ∧ Below w.heap.size w w' := by
  subst hv
  have HB := Lib.hid ((Below.refl w.heap.size w).alloc (Nat.le_refl _) (pObj (.slice A n c) l b k))
  rcases Nat.eq_zero_or_pos l.length with h0 | h0
  · obtain rfl := List.length_eq_zero_iff.1 h0
    go_enter Tryd.func26, Tryd.ntmps26
    go_wp2_with fail
    go_ret
    exact ⟨rfl, HB.out⟩
  · have p1 : (0 : Int) < (l.length : Int) := by omega
    have p2 : ¬ (l.length : Int) = 0 := by omega
    have p3 : ((l.length : Int) == 0) = false := by simpa using p2
    have p4 : ¬ l.length = 0 := by omega
    go_enter Tryd.func26, Tryd.ntmps26
    go_wp2_with fail
    go_ret
    exact ⟨rfl, HB.out⟩
end Go.Proofs.YtchhbnnpannnhaaDoor
