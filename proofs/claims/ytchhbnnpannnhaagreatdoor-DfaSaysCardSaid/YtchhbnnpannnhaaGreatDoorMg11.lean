/- Texts joined, each with its own conditions. (1) The document's reading of a pattern: with, next, row, part, either, Read: their walks. No condition. (2) The document's reading of a pattern: part, row, either, Read: their walks. No condition. (3) The document's reading of a pattern: row, either, Read: their walks. No condition. -/
import Derived.Test.YtchhbnnpannnhaaGreatDoorMg3
import Derived.Test.YtchhbnnpannnhaaGreatDoorMg2
import Derived.Laws.AppendOwnNone
namespace Go.Proofs.YtchhbnnpannnhaaGreatDoor
open Go.RowKit IntWalk
attribute [local go_sem] byte_at str_app

/-- A node of the document's. -/
structure N4 where
  k : Int
  c : UInt8
  l : Nat
  r : Nat
abbrev ncs (x : N4) : List Value := [.int .i64 x.k, .int .u8 (x.c.toNat : Int), .int .i64 (x.l : Int), .int .i64 (x.r : Int)]
def ncells (xs : List N4) : List Value := xs.flatMap ncs
theorem ncells_len (xs : List N4) : (ncells xs).length = xs.length * 4 := by
  induction xs with
  | nil => rfl
  | cons x xs ih => unfold ncells at *; rw [List.flatMap_cons, List.length_append, ih]; simp; omega
theorem ncells_app (a b : List N4) : ncells (a ++ b) = ncells a ++ ncells b := by unfold ncells; rw [List.flatMap_append]
/-- The value v reads as the nodes xs, in blocks from base on. -/
abbrev NV (w : World) (base : Nat) (v : Value) (xs : List N4) : Prop := w.ownsRow base 77 4 v xs.length (ncells xs)
theorem NV.keep {w w' : World} {base B : Nat} {v : Value} {xs : List N4} (h : NV w base v xs) (hb : Below B w w') (hB : w.heap.size ≤ B) : NV w' base v xs := own_below h hb hB
theorem NV.zero {w : World} {base : Nat} {v : Value} {xs : List N4} (h : NV w base v xs) : NV w 0 v xs := by
  refine ⟨h.1, ?_⟩
  rcases h.2 with h2 | ⟨g, cap, cur, hv, hg, r⟩
  · exact .inl h2
  · exact .inr ⟨g, cap, cur, hv, Nat.zero_le _, r⟩
theorem NV.far {w w' : World} {base : Nat} {v : Value} {xs : List N4} (h : NV w base v xs) (hk : ∀ g, base ≤ g → w'.heap[g]? = w.heap[g]?) : NV w' base v xs := by
  refine ⟨h.1, ?_⟩
  rcases h.2 with h2 | ⟨g, cap, cur, hv, hg, hh, r⟩
  · exact .inl h2
  · exact .inr ⟨g, cap, cur, hv, hg, (hk g hg).trans hh, r⟩
theorem info_node : (Tryz.prog.info? 77).map (fun i => (i.zero, i.size, i.bytes)) = some (some (.agg #[.int .i64 0, .int .u8 0, .int .i64 0, .int .i64 0]), 4, 32) := by kernel_rfl
/-- append of a row of nodes onto another one of the call's own. -/
theorem wpList_appendN {P : Program} {w : World} {ops : Array Oper} {rest : List Oper} {o : Oper} {a : Act} {Q : Exit → Act → World → Prop} (hgd : o.guard = none) (s x : Operand) (t : TypeId)
    (ho : o.op = .call { callee := .builtin .append, args := #[s, x], argTypes := #[t, t] }) (e : TypeId) (i : TypeInfo) (z : Value) (ht : P.underlying t = some (.slice e)) (hi : P.info? e = some i) (hz : i.zero = some z)
    (hsize : i.size = 4) (hby : i.bytes ≤ 64) (hzs : z.cells.size = 4) (base base2 : Nat) (v xv : Value) (l l2 : List N4) (hs : a.eval s = v)
    (hx : a.eval x = xv) (hown : w.ownsRow base e 4 v l.length (ncells l)) (hown2 : w.ownsRow base2 e 4 xv l2.length (ncells l2)) (hlen : l.length + l2.length ≤ 1000) (hbase : base ≤ w.heap.size)
    (h : ∀ v' w', w'.ownsRow base e 4 v' (l ++ l2).length (ncells (l ++ l2)) → Below base w w' → wpList P ops Q rest (a.put o.dst v') w') : wpList P ops Q (o :: rest) a w := by
  have hbytes : (l.length + l2.length) * i.bytes ≤ 140737488355328 := by
    have h1 : (l.length + l2.length) * i.bytes ≤ 1000 * 64 := Nat.mul_le_mul (by omega) hby
    omega
  rcases hown2.2 with ⟨hv, h0⟩ | ⟨g, cap, cur, hv, hb, hg, _⟩
  · have : l2 = [] := List.length_eq_zero_iff.1 h0
    subst this
    refine wpList_append_own_none hgd s x t ho base e i 4 ht hi v l.length (ncells l) hs hown (hx.trans hv) ?_
    exact h v w (by rw [List.append_nil]; exact hown) (Below.refl _ _)
  · subst hv
    refine wpList_append_own (P := P) w hgd s x t ho base e i z 4 i.bytes ht hi hz hsize rfl hzs (by omega) v l.length (ncells l) hs hown ⟨g, 0, none⟩ l2.length cap (ncells l2) hx (by rw [ncells_len]) ?_ ?_ ?_ hbytes hbase ?_
    · intro j u hj
      exact hown2.cells (g := g) rfl j u hj
    · intro u hu
      obtain ⟨c, _, hc⟩ := List.mem_flatMap.1 hu
      simp only [ncs, List.mem_cons, List.not_mem_nil, or_false] at hc
      rcases hc with rfl | rfl | rfl | rfl <;> rfl
    · simp only [maxLen]; omega
    · intro v' w' h1 h2 _
      refine h v' w' (by rw [List.length_append, ncells_app]; exact h1) ((Below.refl base w).grown h2 hbase (fun k hk => own_lt hown hk))
theorem own_node (w : World) (x : N4) : NV (w.alloc (.cells #[.int .i64 x.k, .int .u8 (x.c.toNat : Int), .int .i64 (x.l : Int), .int .i64 (x.r : Int)] 77)) w.heap.size (.slice (some ⟨w.heap.size, 0, none⟩) 1 1) [x] :=
  ⟨rfl, .inr ⟨w.heap.size, 1, _, rfl, Nat.le_refl _, heap_alloc_new w _, Nat.le_refl _, by simp [maxLen], rfl, rfl⟩⟩
abbrev PV (v : Value) (l : List UInt8) (b : Bool) (k : Nat) : Value := .agg #[v, S l, .bool b, .int .i64 (k : Int)]
abbrev pObj (v : Value) (l : List UInt8) (b : Bool) (k : Nat) : Obj := .cells #[v, S l, .bool b, .int .i64 (k : Int)] 36
abbrev ndV (x : N4) : Value := .agg #[.int .i64 x.k, .int .u8 (x.c.toNat : Int), .int .i64 (x.l : Int), .int .i64 (x.r : Int)]
theorem four_at {w : World} {g : Nat} {a b c d : Value} {t : TypeId} (h : w.heap[g]? = some (.cells #[a, b, c, d] t)) : w.cell? ⟨g, 0, none⟩ = some a ∧ w.cell? ⟨g, 1, none⟩ = some b ∧ w.cell? ⟨g, 2, none⟩ = some c ∧ w.cell? ⟨g, 3, none⟩ = some d ∧ w.frozen? ⟨g, 0, none⟩ = false ∧ w.frozen? ⟨g, 1, none⟩ = false ∧ w.frozen? ⟨g, 2, none⟩ = false ∧ w.frozen? ⟨g, 3, none⟩ = false :=
  ⟨by rw [cell_of_row w g 0 _ _ (0, 0) h]; rfl, by rw [cell_of_row w g 1 _ _ (0, 0) h]; rfl, by rw [cell_of_row w g 2 _ _ (0, 0) h]; rfl, by rw [cell_of_row w g 3 _ _ (0, 0) h]; rfl, Lib.frozen_of_heap h 0, Lib.frozen_of_heap h 1, Lib.frozen_of_heap h 2, Lib.frozen_of_heap h 3⟩
theorem res_cell1 {P : Program} {fn : Func} {p : Tmp} {ty : TypeId} (h : fn.results = #[.cell p ty]) (tmps : Array Value) (w : World) (g : Nat) (t : TypeId) (cs : Array Value) (fr : Nat × Nat) (d : TypeDesc)
    (hp : tmps.getD p undef = .pointer (some ⟨g, 0, none⟩)) (hg : w.heap[g]? = some (.cells cs t fr))
    (hu : P.underlying ty = some d) (hd : (match d with | .struct _ | .array _ _ => true | _ => false) = true) (hi : (P.info? ty).map (·.size) = some cs.size) :
    (results fn tmps).run P w = .ok (.agg cs) w := by
  have hp' : tmps[p]?.getD undef = .pointer (some ⟨g, 0, none⟩) := by simpa using hp
  simp [results, h, hp', asAddr, run_loadVar_row w g t ty cs fr d hg hu hd hi]
theorem set4 {w : World} {g : Nat} {a b c d x y z u : Value} {t : TypeId} (h : w.heap[g]? = some (.cells #[a, b, c, d] t)) : ((((w.setCell ⟨g, 0, none⟩ x).setCell ⟨g, 1, none⟩ y).setCell ⟨g, 2, none⟩ z).setCell ⟨g, 3, none⟩ u).heap[g]? = some (.cells #[x, y, z, u] t) := by
  simp [World.setCell, Array.getElem?_modify, h]
theorem set4_other {w : World} {g k : Nat} (h : k ≠ g) (x y z u : Value) : ((((w.setCell ⟨g, 0, none⟩ x).setCell ⟨g, 1, none⟩ y).setCell ⟨g, 2, none⟩ z).setCell ⟨g, 3, none⟩ u).heap[k]? = w.heap[k]? :=
  (Below.heap_setCell _ _ _ k h).trans ((Below.heap_setCell _ _ _ k h).trans ((Below.heap_setCell _ _ _ k h).trans (Below.heap_setCell _ _ _ k h)))
theorem below_set4 {w w4 : World} {B g : Nat} (h : Below B w w4) (hg : B ≤ g) (x y z u : Value) : Below B w ((((w4.setCell ⟨g, 0, none⟩ x).setCell ⟨g, 1, none⟩ y).setCell ⟨g, 2, none⟩ z).setCell ⟨g, 3, none⟩ u) :=
  (((h.setCell (p := ⟨g, 0, none⟩) hg _).setCell (p := ⟨g, 1, none⟩) hg _).setCell (p := ⟨g, 2, none⟩) hg _).setCell (p := ⟨g, 3, none⟩) hg _
theorem alloc3_1 (w : World) (a b c : Obj) : ((((w.alloc a).alloc b).alloc c).heap[w.heap.size]? = some a) ∧ ((((w.alloc a).alloc b).alloc c).heap[w.heap.size + 1]? = some b) ∧ ((((w.alloc a).alloc b).alloc c).heap[w.heap.size + 1 + 1]? = some c) ∧ ((((w.alloc a).alloc b).alloc c).heap.size = w.heap.size + 3) ∧ Below w.heap.size w (((w.alloc a).alloc b).alloc c) := by
  have e1 : (w.alloc a).heap.size = w.heap.size + 1 := by simp
  have e2 : ((w.alloc a).alloc b).heap.size = w.heap.size + 1 + 1 := by simp
  refine ⟨?_, ?_, ?_, by simp, (((Below.refl _ w).alloc (Nat.le_refl _) _).alloc (by simp) _).alloc (by simp; omega) _⟩
  · rw [Lib.alloc_old _ c _ (by rw [e2]; omega), Lib.alloc_old _ b _ (by rw [e1]; omega)]; exact heap_alloc_new w a
  · rw [Lib.alloc_old _ c _ (by rw [e2]; omega), ← e1]; exact heap_alloc_new (w.alloc a) b
  · rw [← e2]; exact heap_alloc_new ((w.alloc a).alloc b) c
set_option maxRecDepth 100000 in
set_option maxHeartbeats 4000000 in
theorem with_any (v : Value) (xs : List N4) (l : List UInt8) (b : Bool) (k : Nat) (x : N4) (w : World) (hv : NV w 0 v xs) (hn : xs.length ≤ 500) :
    Calls Tryz.prog 39 #[PV v l b k, ndV x] w fun e w' => (∃ v', e = .returned (PV v' l b xs.length) ∧ NV w' 0 v' (xs ++ [x])) ∧ Below w.heap.size w w' := by
  obtain ⟨i0, hi, hz0, hz1, hz2⟩ := info_parts info_node
  have HV := Lib.hid hv
  obtain ⟨A1, c1, rfl, _⟩ := own_shape hv
  clear hv
  go_enter Tryz.func39, Tryz.ntmps39
  go_upto_region 2 with fail
  have h1 := alloc3_1 w (pObj (.slice A1 xs.length c1) l b k) (.cells #[.int .i64 x.k, .int .u8 (x.c.toNat : Int), .int .i64 (x.l : Int), .int .i64 (x.r : Int)] 77) (pObj (.slice none 0 0) [] false 0)
  obtain ⟨h1, h2, h3, hz, hB⟩ := h1
  have HVW := Lib.hid (HV.out.keep hB (Nat.le_refl _))
  generalize ((w.alloc (pObj (.slice A1 xs.length c1) l b k)).alloc (.cells #[.int .i64 x.k, .int .u8 (x.c.toNat : Int), .int .i64 (x.l : Int), .int .i64 (x.r : Int)] 77)).alloc (pObj (.slice none 0 0) [] false 0) = W at *
  have HB := Lib.hid hB; have H1 := Lib.hid h1; have H2 := Lib.hid h2; have H3 := Lib.hid h3
  obtain ⟨a0, a1, a2, a3, z0, z1, z2, z3⟩ := four_at h1
  clear h1 h2 h3 hB HV
  have tok1 : True := trivial
  go_wp2_with (first
    | (at_builtin; have _t := tok1; refine wpList_appendN rfl (.tmp 6) (.tmp 8) _ rfl 77 i0 _ Tryz.underlying34 hi hz0 hz1 (by omega) rfl W.heap.size 0 (.slice none 0 0) (.slice A1 xs.length c1) [] xs rfl rfl (World.ownsRow_nil _ _ _ _) HVW.out (by simp; omega) (Nat.le_refl _) ?_; intro v4 w4 ho4 hb4; clear tok1 _t a0 a1 a2 a3 z0 z1 z2 z3;
       have HO4 := Lib.hid ho4; have HB4 := Lib.hid (HB.out.trans (hb4.mono HB.out.size)); have g1 := (hb4.block w.heap.size (by omega)).trans H1.out; have g2 := (hb4.block (w.heap.size + 1) (by omega)).trans H2.out; have g3 := (hb4.block (w.heap.size + 1 + 1) (by omega)).trans H3.out; have HG1 := Lib.hid g1; have HG3 := Lib.hid g3; have hz4 := hb4.size;
       obtain ⟨a0, a1, a2, a3, z0, z1, z2, z3⟩ := four_at g1; obtain ⟨b0, b1, b2, b3, y0, y1, y2, y3⟩ := four_at g2; obtain ⟨d0, d1, d2, d3, x0, x1, x2, x3⟩ := four_at g3; obtain ⟨A4, c4, rfl, _⟩ := own_shape ho4; clear ho4 hb4 g1 g2 g3)
    | (at_builtin; refine wpList_appendN rfl (.tmp 10) (.tmp 12) _ rfl 77 i0 _ Tryz.underlying34 hi hz0 hz1 (by omega) rfl W.heap.size w4.heap.size (.slice A4 _ c4) (.slice (some ⟨w4.heap.size, 0, none⟩) 1 1) ([] ++ xs) [x] rfl rfl (NV.keep HO4.out ((Below.refl _ w4).alloc (Nat.le_refl _) _) (Nat.le_refl _)) (own_node w4 x) (by simp; omega) (by simp; omega) ?_; intro v5 w5 ho5 hb5; clear a0 a1 a2 a3 z0 z1 z2 z3 b0 b1 b2 b3 y0 y1 y2 y3 d0 d1 d2 d3 x0 x1 x2 x3;
       have HO5 := Lib.hid ho5; have hb5' := ((Below.refl W.heap.size w4).alloc hz4 (.cells #[.int .i64 x.k, .int .u8 (x.c.toNat : Int), .int .i64 (x.l : Int), .int .i64 (x.r : Int)] 77)).trans hb5; have HB5 := Lib.hid (HB4.out.trans (hb5'.mono HB.out.size)); have g1 := (hb5'.block w.heap.size (by omega)).trans HG1.out; have g3 := (hb5'.block (w.heap.size + 1 + 1) (by omega)).trans HG3.out; have HK1 := Lib.hid g1; have HK3 := Lib.hid g3;
       obtain ⟨a0, a1, a2, a3, z0, z1, z2, z3⟩ := four_at g1; obtain ⟨d0, d1, d2, d3, x0, x1, x2, x3⟩ := four_at g3; obtain ⟨A5, c5, rfl, _⟩ := own_shape ho5; clear ho5 hb5 hb5' g1 g3))
  have hne : w.heap.size + 1 + 1 ≠ w.heap.size := by omega
  have HK6 : ((w5.setCell ⟨w.heap.size, 0, none⟩ (.slice A5 (xs.length + 1) c5)).setCell ⟨w.heap.size, 3, none⟩ (.int .i64 (xs.length : Int))).heap[w.heap.size + 1 + 1]? = some (pObj (.slice none 0 0) [] false 0) :=
    (Below.heap_setCell _ _ _ _ hne).trans ((Below.heap_setCell _ _ _ _ hne).trans HK3.out)
  refine bodyPost_ret (res_cell1 rfl _ _ (w.heap.size + 1 + 1) 36 _ (0, 0) _ rfl (set4 HK6) Tryz.underlying36 rfl (by kernel_rfl)) rfl ?_
  refine ⟨⟨.slice A5 (xs.length + 1) c5, rfl, NV.zero (NV.far (base := W.heap.size) (w := w5) ?_ ?_)⟩, below_set4 ((HB5.out.setCell (p := ⟨w.heap.size, 0, none⟩) (Nat.le_refl _) _).setCell (p := ⟨w.heap.size, 3, none⟩) (Nat.le_refl _) _) (by omega) _ _ _ _⟩
  · have h := HO5.out
    rw [List.nil_append] at h
    rw [show xs.length + 1 = (xs ++ [x]).length by simp]
    exact h
  · intro g hg
    rw [set4_other (by omega)]
    exact (Below.heap_setCell _ _ _ _ (by show g ≠ w.heap.size; omega)).trans (Below.heap_setCell _ _ _ _ (by show g ≠ w.heap.size; omega))
set_option maxHeartbeats 1000000 in
theorem next_any (v : Value) (l : List UInt8) (b : Bool) (k : Nat) (w : World) (A : Option Addr) (n c : Nat) (hv : v = .slice A n c) (hl : l.length ≤ 1000) :
    Calls Tryz.prog 38 #[PV v l b k] w fun e w' => e = .returned (.int .u8 ((bu l 0).toNat : Int)) ∧ Below w.heap.size w w' := by
  subst hv
  have HB := Lib.hid ((Below.refl w.heap.size w).alloc (Nat.le_refl _) (pObj (.slice A n c) l b k))
  rcases Nat.eq_zero_or_pos l.length with h0 | h0
  · obtain rfl := List.length_eq_zero_iff.1 h0
    go_enter Tryz.func38, Tryz.ntmps38
    go_wp2_with fail
    go_ret
    exact ⟨rfl, HB.out⟩
  · have p1 : (0 : Int) < (l.length : Int) := by omega
    have p2 : ¬ (l.length : Int) = 0 := by omega
    have p3 : ((l.length : Int) == 0) = false := by simpa using p2
    have p4 : ¬ l.length = 0 := by omega
    go_enter Tryz.func38, Tryz.ntmps38
    go_wp2_with fail
    go_ret
    exact ⟨rfl, HB.out⟩
end Go.Proofs.YtchhbnnpannnhaaGreatDoor

namespace Go.Proofs.YtchhbnnpannnhaaGreatDoor
open Go.RowKit IntWalk
attribute [local go_sem] byte_at str_app

/-- Node k of xs is the root of a tree. -/
def RepR (xs : List N4) : Rt → Nat → Prop
  | .emp, k => xs[k]? = some ⟨0, 0, 0, 0⟩
  | .sgn c, k => xs[k]? = some ⟨1, c, 0, 0⟩
  | .alt l r, k => ∃ a b, xs[k]? = some ⟨2, 0, a, b⟩ ∧ RepR xs l a ∧ RepR xs r b
  | .seq l r, k => ∃ a b, xs[k]? = some ⟨3, 0, a, b⟩ ∧ RepR xs l a ∧ RepR xs r b
  | .str l, k => ∃ a, xs[k]? = some ⟨4, 0, a, 0⟩ ∧ RepR xs l a
theorem get_app {xs : List N4} {k : Nat} {x : N4} (h : xs[k]? = some x) (ys : List N4) : (xs ++ ys)[k]? = some x := by
  rw [List.getElem?_append_left (List.getElem?_eq_some_iff.1 h).1]; exact h
theorem RepR.app {xs : List N4} (ys : List N4) : ∀ {t : Rt} {k : Nat}, RepR xs t k → RepR (xs ++ ys) t k
  | .emp, k, h => get_app h ys
  | .sgn c, k, h => get_app h ys
  | .alt l r, k, h => by
    obtain ⟨a, b, h, h1, h2⟩ := h
    exact ⟨a, b, get_app h ys, RepR.app ys h1, RepR.app ys h2⟩
  | .seq l r, k, h => by
    obtain ⟨a, b, h, h1, h2⟩ := h
    exact ⟨a, b, get_app h ys, RepR.app ys h1, RepR.app ys h2⟩
  | .str l, k, h => by
    obtain ⟨a, h, h1⟩ := h
    exact ⟨a, get_app h ys, RepR.app ys h1⟩
theorem starsR_at (m : Rt) (s : List UInt8) (h : 0 < s.length) : starsR m s = if bu s 0 = 42 then starsR (.str m) (s.drop 1) else (m, s) := by
  cases s with
  | nil => exact absurd h (by simp)
  | cons c s => rfl
theorem starsR_no {m : Rt} {s : List UInt8} (h : bu s 0 ≠ 42) : starsR m s = (m, s) := by
  cases s with
  | nil => rfl
  | cons c s => exact if_neg h
def partR (E : RRd) : RRd := fun s => match oneR E s with
  | none => none
  | some (m, s2) => some (starsR m s2)
theorem NV.set {W : World} {v : Value} {xs : List N4} {g : Nat} {a b c d : Value} (h : NV W 0 v xs) (hp : W.heap[g]? = some (.cells #[a, b, c, d] 36)) (i : Nat) (u : Value) : NV (W.setCell ⟨g, i, none⟩ u) 0 v xs := by
  refine ⟨h.1, ?_⟩
  rcases h.2 with h2 | ⟨g', cap, cur, hv, hg, hh, r⟩
  · exact .inl h2
  · refine .inr ⟨g', cap, cur, hv, hg, (Below.heap_setCell _ _ _ _ (fun e => ?_)).trans hh, r⟩
    have e : g' = g := e
    subst e
    rw [hp] at hh
    injection hh with hh
    injection hh with _ hh _
    exact absurd hh (by decide)
/-- The variable p and the result in memory. -/
structure PB (w W : World) (v : Value) (l : List UInt8) (b : Bool) (k : Nat) (xs : List N4) : Prop where
  p : W.heap[w.heap.size]? = some (pObj v l b k)
  r : W.heap[w.heap.size + 1]? = some (pObj (.slice none 0 0) [] false 0)
  nv : NV W 0 v xs
  bl : Below w.heap.size w W
theorem PB.below {w W W' : World} {v : Value} {l : List UInt8} {b : Bool} {k : Nat} {xs : List N4} (h : PB w W v l b k xs) (hb : Below W.heap.size W W') : PB w W' v l b k xs :=
  ⟨(hb.block _ (Array.getElem?_eq_some_iff.1 h.p).1).trans h.p, (hb.block _ (Array.getElem?_eq_some_iff.1 h.r).1).trans h.r, h.nv.keep hb (Nat.le_refl _), h.bl.trans (hb.mono h.bl.size)⟩
theorem PB.left {w W : World} {v : Value} {l : List UInt8} {b : Bool} {k : Nat} {xs : List N4} (h : PB w W v l b k xs) (l' : List UInt8) : PB w (W.setCell ⟨w.heap.size, 1, none⟩ (S l')) v l' b k xs :=
  ⟨by have := h.p; simp [World.setCell, Array.getElem?_modify, this], (Below.heap_setCell _ _ _ _ (by show w.heap.size + 1 ≠ w.heap.size; omega)).trans h.r, h.nv.set h.p _ _, h.bl.setCell (p := ⟨w.heap.size, 1, none⟩) (Nat.le_refl _) _⟩
theorem PB.bad {w W : World} {v : Value} {l : List UInt8} {b : Bool} {k : Nat} {xs : List N4} (h : PB w W v l b k xs) : PB w (W.setCell ⟨w.heap.size, 2, none⟩ (.bool true)) v l true k xs :=
  ⟨by have := h.p; simp [World.setCell, Array.getElem?_modify, this], (Below.heap_setCell _ _ _ _ (by show w.heap.size + 1 ≠ w.heap.size; omega)).trans h.r, h.nv.set h.p _ _, h.bl.setCell (p := ⟨w.heap.size, 2, none⟩) (Nat.le_refl _) _⟩
abbrev st4 (W : World) (g : Nat) (a b c d : Value) : World := (((W.setCell ⟨g, 0, none⟩ a).setCell ⟨g, 1, none⟩ b).setCell ⟨g, 2, none⟩ c).setCell ⟨g, 3, none⟩ d
theorem NV.set4 {W : World} {v : Value} {xs : List N4} {g : Nat} {a b c d : Value} (h : NV W 0 v xs) (hp : W.heap[g]? = some (.cells #[a, b, c, d] 36)) (x y z u : Value) : NV (st4 W g x y z u) 0 v xs := by
  refine ⟨h.1, ?_⟩
  rcases h.2 with h2 | ⟨g', cap, cur, hv, hg, hh, r⟩
  · exact .inl h2
  · refine .inr ⟨g', cap, cur, hv, hg, (set4_other (fun e => ?_) _ _ _ _).trans hh, r⟩
    have e : g' = g := e
    subst e
    rw [hp] at hh
    injection hh with hh
    injection hh with _ hh _
    exact absurd hh (by decide)
/-- Another value for p. -/
theorem PB.all {w W : World} {v : Value} {l : List UInt8} {b : Bool} {k : Nat} {xs : List N4} (h : PB w W v l b k xs) {v' : Value} {l' : List UInt8} {b' : Bool} {k' : Nat} {xs' : List N4} (hv : NV W 0 v' xs') :
    PB w (st4 W w.heap.size v' (S l') (.bool b') (.int .i64 (k' : Int))) v' l' b' k' xs' :=
  ⟨set4 h.p, (set4_other (by omega) _ _ _ _).trans h.r, hv.set4 h.p _ _ _ _, below_set4 h.bl (Nat.le_refl _) _ _ _ _⟩
/-- The start. -/
theorem PB.start {w : World} {v : Value} {l : List UInt8} {b : Bool} {k : Nat} {xs : List N4} (hv : NV w 0 v xs) : PB w ((w.alloc (pObj v l b k)).alloc (pObj (.slice none 0 0) [] false 0)) v l b k xs := by
  have e1 : (w.alloc (pObj v l b k)).heap.size = w.heap.size + 1 := by simp
  have hB : Below w.heap.size w ((w.alloc (pObj v l b k)).alloc (pObj (.slice none 0 0) [] false 0)) := ((Below.refl _ w).alloc (Nat.le_refl _) _).alloc (by simp) _
  refine ⟨?_, by rw [← e1]; exact heap_alloc_new (w.alloc (pObj v l b k)) _, hv.keep hB (Nat.le_refl _), hB⟩
  rw [Lib.alloc_old _ _ _ (by rw [e1]; omega)]; exact heap_alloc_new w _
/-- What a reading answers: nodes more, what is left. -/
def PS (x : RRes) (xs : List N4) (L a b : Nat) (e : Ending) (w' : World) : Prop :=
  ∃ v' ys l' b' k', e = .returned (PV v' l' b' k') ∧ NV w' 0 v' (xs ++ ys) ∧ (xs ++ ys).length + 4 * l'.length + a ≤ xs.length + 4 * L + b ∧ l'.length ≤ L ∧ (match x with | none => b' = true | some (rt, r) => b' = false ∧ l' = r ∧ RepR (xs ++ ys) rt k')
def ConPart (E : RRd) (n : Nat) : Prop := ∀ (v : Value) (xs : List N4) (l : List UInt8) (k : Nat) (w : World), NV w 0 v xs → 0 < l.length → l.length ≤ n → xs.length + 4 * l.length ≤ 450 →
  Calls Tryz.prog 57 #[PV v l false k] w fun e w' => PS (partR E l) xs l.length 3 0 e w' ∧ Below w.heap.size w w'
def ConRowR (E : RRd) (n : Nat) : Prop := ∀ (v : Value) (xs : List N4) (l : List UInt8) (k : Nat) (w : World), NV w 0 v xs → l.length ≤ n → xs.length + 4 * l.length ≤ 446 →
  Calls Tryz.prog 37 #[PV v l false k] w fun e w' => PS (E l) xs l.length 0 1 e w' ∧ Below w.heap.size w w'
def ConEitR (E : RRd) (n : Nat) : Prop := ∀ (v : Value) (xs : List N4) (l : List UInt8) (k : Nat) (w : World), NV w 0 v xs → l.length ≤ n → xs.length + 4 * l.length ≤ 446 →
  Calls Tryz.prog 19 #[PV v l false k] w fun e w' => PS (E l) xs l.length 0 1 e w' ∧ Below w.heap.size w w'
theorem part_at (E : RRd) (s : List UInt8) (h : 0 < s.length) : partR E s = if 97 ≤ bu s 0 ∧ bu s 0 ≤ 122 then some (starsR (.sgn (bu s 0)) (s.drop 1))
    else if bu s 0 = 40 then
      match E (s.drop 1) with
      | none => none
      | some (_, []) => none
      | some (n, d :: s2) => if d = 41 then some (starsR n s2) else none
    else none := by
  cases s with
  | nil => exact absurd h (by simp)
  | cons c s =>
    unfold partR
    rw [oneR_cons]
    show _ = if 97 ≤ c ∧ c ≤ 122 then some (starsR (.sgn c) s)
      else if c = 40 then
        match E s with
        | none => none
        | some (_, []) => none
        | some (n, d :: s2) => if d = 41 then some (starsR n s2) else none
      else none
    by_cases h1 : 97 ≤ c ∧ c ≤ 122
    · rw [if_pos h1, if_pos h1]
    · rw [if_neg h1, if_neg h1]
      by_cases h2 : c = 40
      · rw [if_pos h2, if_pos h2]
        cases E s with
        | none => rfl
        | some p =>
          obtain ⟨n, r⟩ := p
          cases r with
          | nil => rfl
          | cons d s2 =>
            by_cases h3 : d = 41
            · simp [h3]
            · simp [h3]
      · rw [if_neg h2, if_neg h2]
set_option maxRecDepth 100000 in
set_option maxHeartbeats 8000000 in
theorem part_walk (E : RRd) (n : Nat) (hE : ConEitR E n) : ConPart E (n + 1) := by
  intro v xs l k w hv h0 hn hb
  obtain ⟨A1, c1, rfl, _⟩ := own_shape hv
  have HST := Lib.hid (PB.start (l := l) (b := false) (k := k) hv)
  have hx := str_from l 1
  have HO := Lib.hid (part_at E l h0)
  have HE := Lib.hid (fun (v : Value) W h => hE v xs (l.drop 1) k W h (by rw [List.length_drop]; omega) (by rw [List.length_drop]; omega))
  have hdl : (l.drop 1).length = l.length - 1 := by simp
  have HNX := Lib.hid (fun W => next_any (.slice A1 xs.length c1) l false k W A1 xs.length c1 rfl (by omega))
  have p2 : (1 : Int) ≤ (l.length : Int) := by omega
  have p3 : l.length ≤ 200 := by omega
  generalize partR E l = X at *
  generalize l.drop 1 = d at *
  clear hv hE
  go_enter Tryz.func57, Tryz.ntmps57
  go_wp2_with fail
  refine (HNX.out _).mono ?_
  rintro e w1 ⟨rfl, hb1⟩
  have hpb1 := HST.out.below hb1
  have HPB1 := Lib.hid hpb1
  have HPBL := Lib.hid (hpb1.left d)
  obtain ⟨a0, a1, a2, a3, z0, z1, z2, z3⟩ := four_at hpb1.p
  obtain ⟨d0, d1, d2, d3, x0, x1, x2, x3⟩ := four_at hpb1.r
  clear hb1 hpb1 HST HNX
  generalize hc : bu l 0 = c at *
  clear hc
  by_cases hlo : 97 ≤ c ∧ c ≤ 122
  · obtain ⟨Z, HZ2, HXZ⟩ : ∃ Z, Hid (starsR (.sgn c) d = Z) ∧ Hid (X = some Z) := ⟨_, Lib.hid rfl, Lib.hid (by rw [HO.out, if_pos hlo])⟩
    have q1 : (97 : Int) ≤ (c.toNat : Int) := by have := UInt8.le_iff_toNat_le.1 hlo.1; have e : (97 : UInt8).toNat = 97 := rfl; omega
    have q2 : (c.toNat : Int) ≤ 122 := by have := UInt8.le_iff_toNat_le.1 hlo.2; have e : (122 : UInt8).toNat = 122 := rfl; omega
    have HW := Lib.hid (with_any (.slice A1 xs.length c1) xs d false k ⟨1, c, 0, 0⟩ _ HPBL.out.nv (by omega))
    clear HO HE hlo HPB1
    go_wp2_with fail
    refine HW.out.mono ?_
    rintro e w3 ⟨⟨v3, rfl, hn3⟩, hb3⟩
    have hpb3 := HPBL.out.below hb3
    have HPB2 := Lib.hid (hpb3.all (l' := d) (b' := false) (k' := xs.length) hn3)
    obtain ⟨A3, c3, rfl, _⟩ := own_shape hn3
    obtain ⟨n3, hn3e⟩ : ∃ n3, n3 = (xs ++ [(⟨1, c, 0, 0⟩ : N4)]).length := ⟨_, rfl⟩
    rw [← hn3e] at HPB2 ⊢
    clear hn3e
    clear hb3 hn3 HPBL HW a0 a1 a2 a3 z0 z1 z2 z3 d0 d1 d2 d3 x0 x1 x2 x3
    obtain ⟨a0, a1, a2, a3, z0, z1, z2, z3⟩ := four_at hpb3.p
    obtain ⟨d0, d1, d2, d3, x0, x1, x2, x3⟩ := four_at hpb3.r
    clear hpb3
    have HRP2 : Hid (RepR (xs ++ [⟨1, c, 0, 0⟩]) (.sgn c) xs.length) := Lib.hid (by show _ = _; rw [List.getElem?_append_right (Nat.le_refl _), Nat.sub_self]; rfl)
    have HLE2 : Hid ((xs ++ [(⟨1, c, 0, 0⟩ : N4)]).length + 4 * d.length + 3 ≤ xs.length + 4 * l.length) := Lib.hid (by rw [List.length_append]; simp only [List.length_cons, List.length_nil]; omega)
    have HLL2 : Hid (d.length ≤ l.length) := Lib.hid (by omega)
    go_wp2_with fail
    go_loopg [] d.length (fun f wr => ∃ (v' : Value) (ys : List N4) (l' : List UInt8) (k' : Nat) (rt' : Rt), f = l'.length ∧ PB w wr v' l' false k' (xs ++ ys) ∧ (xs ++ ys).length + 4 * l'.length + 3 ≤ xs.length + 4 * l.length ∧ l'.length ≤ l.length ∧ RepR (xs ++ ys) rt' k' ∧ Hid (starsR rt' l' = Z))
    case atStart => exact ⟨_, [⟨1, c, 0, 0⟩], d, xs.length, (.sgn c), rfl, HPB2.out, HLE2.out, HLL2.out, HRP2.out, HZ2⟩
    case round =>
      obtain ⟨v', ys, l', k', rt', rfl, hpb, hle, hll, hrp, HZ⟩ := hrel
      clear HPB2 HLE2 HLL2 HRP2 HZ2
      obtain ⟨A8, c8, rfl, _⟩ := own_shape hpb.nv
      obtain ⟨n8, hn8⟩ : ∃ n8, n8 = (xs ++ ys).length := ⟨_, rfl⟩
      rw [← hn8] at hpb hle
      have HN8 := Lib.hid hn8
      clear hn8
      obtain ⟨a0, a1, a2, a3, z0, z1, z2, z3⟩ := four_at hpb.p
      obtain ⟨d0, d1, d2, d3, x0, x1, x2, x3⟩ := four_at hpb.r
      have HPB := Lib.hid hpb; have HRP := Lib.hid hrp
      have HNX2 := Lib.hid (next_any (.slice A8 n8 c8) l' false k' wr A8 n8 c8 rfl (by omega))
      clear hpb hrp
      go_wp2_with fail
      refine HNX2.out.mono ?_
      rintro e w5 ⟨rfl, hb5⟩
      have hpb5 := HPB.out.below hb5
      have HPB5 := Lib.hid hpb5
      clear hb5 HPB HNX2 a0 a1 a2 a3 z0 z1 z2 z3 d0 d1 d2 d3 x0 x1 x2 x3
      obtain ⟨a0, a1, a2, a3, z0, z1, z2, z3⟩ := four_at hpb5.p
      obtain ⟨d0, d1, d2, d3, x0, x1, x2, x3⟩ := four_at hpb5.r
      clear hpb5
      by_cases h42 : bu l' 0 = 42
      · have hl0 : 0 < l'.length := by
          rcases Nat.eq_zero_or_pos l'.length with h | h
          · obtain rfl := List.length_eq_zero_iff.1 h; exact absurd h42 (by decide)
          · exact h
        have q1 : ((bu l' 0).toNat : Int) = 42 := by rw [h42]; rfl
        have q2 : (bu l' 0).toNat = 42 := by omega
        have q3 : (((bu l' 0).toNat : Int) == 42) = true := by rw [q1]; rfl
        have hx := str_from l' 1
        have p2 : (1 : Int) ≤ (l'.length : Int) := by omega
        have hdl2 : (l'.drop 1).length = l'.length - 1 := by simp
        have HZ3 : Hid (starsR (.str rt') (l'.drop 1) = Z) := Lib.hid (by rw [← HZ.out, starsR_at rt' l' hl0, if_pos h42])
        generalize l'.drop 1 = dd at *
        have hpb6 := HPB5.out.left dd
        have HPB6 := Lib.hid hpb6
        have HW := Lib.hid (with_any (.slice A8 n8 c8) (xs ++ ys) dd false k' ⟨4, 0, k', 0⟩ _ hpb6.nv (by have := HN8.out; omega))
        rw [← HN8.out] at HW
        have HRP2 : Hid (RepR ((xs ++ ys) ++ [⟨4, 0, k', 0⟩]) (.str rt') n8) := Lib.hid ⟨k', by rw [HN8.out, List.getElem?_append_right (Nat.le_refl _), Nat.sub_self]; rfl, HRP.out.app _⟩
        clear hpb6 h42 HPB5
        go_wp2_with fail
        refine HW.out.mono ?_
        rintro e w7 ⟨⟨v7, rfl, hn7⟩, hb7⟩
        have hpb7 := HPB6.out.below hb7
        have HPB8 := Lib.hid (hpb7.all (l' := dd) (b' := false) (k' := n8) hn7)
        obtain ⟨A9, c9, rfl, _⟩ := own_shape hn7
        obtain ⟨n9, hn9⟩ : ∃ n9, n9 = (xs ++ ys ++ [(⟨4, 0, k', 0⟩ : N4)]).length := ⟨_, rfl⟩
        rw [← hn9] at HPB8 ⊢
        have HN9 := Lib.hid hn9
        clear hn9
        clear hb7 hn7 HPB6 HW HZ HRP a0 a1 a2 a3 z0 z1 z2 z3 d0 d1 d2 d3 x0 x1 x2 x3
        obtain ⟨a0, a1, a2, a3, z0, z1, z2, z3⟩ := four_at hpb7.p
        obtain ⟨d0, d1, d2, d3, x0, x1, x2, x3⟩ := four_at hpb7.r
        clear hpb7
        go_wp2_with fail
        go_roundg dd.length
        case measure => omega
        case rel => exact ⟨_, ys ++ [⟨4, 0, k', 0⟩], dd, n8, .str rt', rfl, by rw [← List.append_assoc]; exact HPB8.out, by have := HN8.out; rw [← List.append_assoc, List.length_append]; simp only [List.length_cons, List.length_nil]; omega, by omega, by rw [← List.append_assoc]; exact HRP2.out, HZ3⟩
      · have q1 : ¬ ((bu l' 0).toNat : Int) = 42 := fun e => h42 (UInt8.toNat_inj.1 (by show (bu l' 0).toNat = 42; omega))
        have q2 : ¬ (bu l' 0).toNat = 42 := by omega
        have q3 : (((bu l' 0).toNat : Int) == 42) = false := by simpa using q1
        have HSN : Hid (starsR rt' l' = (rt', l')) := Lib.hid (starsR_no h42)
        clear h42
        go_wp2_with fail
        refine bodyPost_ret (res_cell1 rfl _ _ (w.heap.size + 1) 36 _ (0, 0) _ rfl (set4 HPB5.out.r) Tryz.underlying36 rfl (by kernel_rfl)) rfl ?_
        refine ⟨⟨_, ys, l', false, k', rfl, HPB5.out.nv.set4 HPB5.out.r _ _ _ _, by have := HN8.out; omega, hll, ?_⟩, below_set4 HPB5.out.bl (Nat.le_succ _) _ _ _ _⟩
        rw [HXZ.out, ← HZ.out, HSN.out]
        exact ⟨rfl, rfl, HRP.out⟩
  by_cases h40 : c = 40
  rotate_left
  · have HXN : Hid (X = none) := Lib.hid (by rw [HO.out, if_neg hlo, if_neg h40])
    have q3 : ¬ (c.toNat : Int) = 40 := fun e => h40 (UInt8.toNat_inj.1 (by show c.toNat = 40; omega))
    have q4 : ((c.toNat : Int) == 40) = false := by simpa using q3
    have q5 : ¬ c.toNat = 40 := by omega
    have q6 : (c.toNat == 40) = false := by simpa using q5
    have hlo' : (97 ≤ c.toNat → ¬ c.toNat ≤ 122) := fun h1 h2 => hlo ⟨UInt8.le_iff_toNat_le.2 h1, UInt8.le_iff_toNat_le.2 h2⟩
    have HPBB := Lib.hid (HPBL.out.bad)
    clear HO HE hlo h40 HPB1 HPBL
    by_cases ha : 97 ≤ c.toNat
    all_goals
      first
        | (have q1 : (97 : Int) ≤ (c.toNat : Int) := by omega
           have q2 : ¬ (c.toNat : Int) ≤ 122 := by have := hlo' ha; omega)
        | (have q1 : ¬ (97 : Int) ≤ (c.toNat : Int) := by omega)
      clear hlo' ha
      go_wp2_with fail
      refine wp_loop_rounds 1 ?_
      rw [rounds_succ]
      go_wp2_with fail
      refine bodyPost_ret (res_cell1 rfl _ _ (w.heap.size + 1) 36 _ (0, 0) _ rfl (set4 HPBB.out.r) Tryz.underlying36 rfl (by kernel_rfl)) rfl ?_
      refine ⟨⟨_, [], d, true, k, rfl, by rw [List.append_nil]; exact HPBB.out.nv.set4 HPBB.out.r _ _ _ _, by simp; omega, by omega, ?_⟩, below_set4 HPBB.out.bl (Nat.le_succ _) _ _ _ _⟩
      rw [HXN.out]
      try exact rfl
  have q1 : ¬ (97 : Int) ≤ (c.toNat : Int) := by rw [h40]; decide
  have q2 : (c.toNat : Int) = 40 := by rw [h40]; rfl
  have q3 : c.toNat = 40 := by omega
  have HO2 := Lib.hid (HO.out)
  rw [if_neg hlo, if_pos h40] at HO2
  have HCE := Lib.hid (HE.out (.slice A1 xs.length c1) _ HPBL.out.nv)
  clear HO HE hlo h40 HPB1
  go_wp2_with fail
  refine HCE.out.mono ?_
  rintro e w3 ⟨⟨v3, ys3, l3, b3, k3, rfl, hn3, hle3, hll3, hm3⟩, hb3⟩
  have hpb3 := HPBL.out.below hb3
  have hpb4 := hpb3.all (l' := l3) (b' := b3) (k' := k3) hn3
  have HPB4 := Lib.hid hpb4
  obtain ⟨A3, c3, rfl, _⟩ := own_shape hn3
  obtain ⟨n3, hn3e⟩ : ∃ n3, n3 = (xs ++ ys3).length := ⟨_, rfl⟩
  rw [← hn3e] at HPB4 hle3 ⊢
  have HN3 := Lib.hid hn3e
  clear hn3e
  have HNX3 := Lib.hid (fun W => next_any (.slice A3 n3 c3) l3 b3 k3 W A3 n3 c3 rfl (by omega))
  clear hb3 hn3 HPBL HCE hpb4 a0 a1 a2 a3 z0 z1 z2 z3 d0 d1 d2 d3 x0 x1 x2 x3
  obtain ⟨a0, a1, a2, a3, z0, z1, z2, z3⟩ := four_at hpb3.p
  obtain ⟨d0, d1, d2, d3, x0, x1, x2, x3⟩ := four_at hpb3.r
  clear hpb3
  go_wp2_with fail
  refine (HNX3.out _).mono ?_
  rintro e w5 ⟨rfl, hb5⟩
  have hpb5 := HPB4.out.below hb5
  have HPB5 := Lib.hid hpb5
  clear hb5 HPB4 HNX3 a0 a1 a2 a3 z0 z1 z2 z3 d0 d1 d2 d3 x0 x1 x2 x3
  obtain ⟨a0, a1, a2, a3, z0, z1, z2, z3⟩ := four_at hpb5.p
  obtain ⟨d0, d1, d2, d3, x0, x1, x2, x3⟩ := four_at hpb5.r
  clear hpb5
  by_cases h41 : bu l3 0 = 41
  rotate_left
  · have HXN : Hid (X = none) := Lib.hid (by
      rw [HO2.out]
      cases hq : E d with
      | none => rfl
      | some p =>
        obtain ⟨rt, r⟩ := p
        rw [hq] at hm3
        obtain ⟨_, rfl, _⟩ := hm3
        cases l3 with
        | nil => rfl
        | cons a r => exact if_neg h41)
    have r1 : ¬ ((bu l3 0).toNat : Int) = 41 := fun e => h41 (UInt8.toNat_inj.1 (by show (bu l3 0).toNat = 41; omega))
    have r2 : (((bu l3 0).toNat : Int) != 41) = true := by simpa using r1
    have r3 : ¬ (bu l3 0).toNat = 41 := by omega
    have HPBB := Lib.hid (HPB5.out.bad)
    clear HO2 h41 hm3
    go_wp2_with fail
    refine bodyPost_ret (res_cell1 rfl _ _ (w.heap.size + 1) 36 _ (0, 0) _ rfl (set4 HPBB.out.r) Tryz.underlying36 rfl (by kernel_rfl)) rfl ?_
    refine ⟨⟨_, ys3, l3, true, k3, rfl, HPBB.out.nv.set4 HPBB.out.r _ _ _ _, by have := HN3.out; omega, by omega, ?_⟩, below_set4 HPBB.out.bl (Nat.le_succ _) _ _ _ _⟩
    rw [HXN.out]
    try exact rfl
  have hl30 : 0 < l3.length := by
    rcases Nat.eq_zero_or_pos l3.length with h | h
    · obtain rfl := List.length_eq_zero_iff.1 h; exact absurd h41 (by decide)
    · exact h
  have r1 : ((bu l3 0).toNat : Int) = 41 := by rw [h41]; rfl
  have r2 : (((bu l3 0).toNat : Int) != 41) = false := by rw [r1]; rfl
  have r3 : (bu l3 0).toNat = 41 := by omega
  have hx3 := str_from l3 1
  have p5 : (1 : Int) ≤ (l3.length : Int) := by omega
  have hdl3 : (l3.drop 1).length = l3.length - 1 := by simp
  have hl3c : l3 = bu l3 0 :: l3.drop 1 := by
    cases l3 with
    | nil => exact absurd hl30 (by simp)
    | cons => rfl
  rw [h41] at hl3c
  have HL3 := Lib.hid hl3c
  clear hl3c h41
  generalize l3.drop 1 = t3 at *
  have HPB6 := Lib.hid (HPB5.out.left t3)
  clear HPB5
  cases hq : E d with
  | none =>
    rw [hq] at hm3
    have hm3 : b3 = true := hm3
    subst hm3
    have HXN : Hid (X = none) := Lib.hid (by rw [HO2.out, hq])
    clear HO2 hq
    go_wp2_with fail
    refine wp_loop_rounds 1 ?_
    rw [rounds_succ]
    go_wp2_with fail
    refine bodyPost_ret (res_cell1 rfl _ _ (w.heap.size + 1) 36 _ (0, 0) _ rfl (set4 HPB6.out.r) Tryz.underlying36 rfl (by kernel_rfl)) rfl ?_
    refine ⟨⟨_, ys3, t3, true, k3, rfl, HPB6.out.nv.set4 HPB6.out.r _ _ _ _, by have := HN3.out; omega, by omega, ?_⟩, below_set4 HPB6.out.bl (Nat.le_succ _) _ _ _ _⟩
    rw [HXN.out]
    try exact rfl
  | some p =>
    obtain ⟨rt, r⟩ := p
    rw [hq] at hm3
    obtain ⟨hb3, hlr, hrp3⟩ := hm3
    subst hb3 hlr
    obtain ⟨Z, HZ2, HXZ⟩ : ∃ Z, Hid (starsR rt t3 = Z) ∧ Hid (X = some Z) := ⟨_, Lib.hid rfl, Lib.hid (by rw [HO2.out, hq, HL3.out]; simp)⟩
    have HRP2 := Lib.hid hrp3
    have HLE2 : Hid ((xs ++ ys3).length + 4 * t3.length + 3 ≤ xs.length + 4 * l.length) := Lib.hid (by have := HN3.out; omega)
    have HLL2 : Hid (t3.length ≤ l.length) := Lib.hid (by omega)
    have HPB2 := HPB6
    clear HO2 hq hrp3 HL3 HPB6 hle3 hll3
    go_wp2_with fail
    go_loopg [] t3.length (fun f wr => ∃ (v' : Value) (ys : List N4) (l' : List UInt8) (k' : Nat) (rt' : Rt), f = l'.length ∧ PB w wr v' l' false k' (xs ++ ys) ∧ (xs ++ ys).length + 4 * l'.length + 3 ≤ xs.length + 4 * l.length ∧ l'.length ≤ l.length ∧ RepR (xs ++ ys) rt' k' ∧ Hid (starsR rt' l' = Z))
    case atStart => exact ⟨_, ys3, t3, k3, rt, rfl, HPB2.out, HLE2.out, HLL2.out, HRP2.out, HZ2⟩
    case round =>
      obtain ⟨v', ys, l', k', rt', rfl, hpb, hle, hll, hrp, HZ⟩ := hrel
      clear HPB2 HLE2 HLL2 HRP2 HZ2
      obtain ⟨A8, c8, rfl, _⟩ := own_shape hpb.nv
      obtain ⟨n8, hn8⟩ : ∃ n8, n8 = (xs ++ ys).length := ⟨_, rfl⟩
      rw [← hn8] at hpb hle
      have HN8 := Lib.hid hn8
      clear hn8
      obtain ⟨a0, a1, a2, a3, z0, z1, z2, z3⟩ := four_at hpb.p
      obtain ⟨d0, d1, d2, d3, x0, x1, x2, x3⟩ := four_at hpb.r
      have HPB := Lib.hid hpb; have HRP := Lib.hid hrp
      have HNX2 := Lib.hid (next_any (.slice A8 n8 c8) l' false k' wr A8 n8 c8 rfl (by omega))
      clear hpb hrp
      go_wp2_with fail
      refine HNX2.out.mono ?_
      rintro e w5 ⟨rfl, hb5⟩
      have hpb5 := HPB.out.below hb5
      have HPB5 := Lib.hid hpb5
      clear hb5 HPB HNX2 a0 a1 a2 a3 z0 z1 z2 z3 d0 d1 d2 d3 x0 x1 x2 x3
      obtain ⟨a0, a1, a2, a3, z0, z1, z2, z3⟩ := four_at hpb5.p
      obtain ⟨d0, d1, d2, d3, x0, x1, x2, x3⟩ := four_at hpb5.r
      clear hpb5
      by_cases h42 : bu l' 0 = 42
      · have hl0 : 0 < l'.length := by
          rcases Nat.eq_zero_or_pos l'.length with h | h
          · obtain rfl := List.length_eq_zero_iff.1 h; exact absurd h42 (by decide)
          · exact h
        have q1 : ((bu l' 0).toNat : Int) = 42 := by rw [h42]; rfl
        have q2 : (bu l' 0).toNat = 42 := by omega
        have q3 : (((bu l' 0).toNat : Int) == 42) = true := by rw [q1]; rfl
        have hx := str_from l' 1
        have p2 : (1 : Int) ≤ (l'.length : Int) := by omega
        have hdl2 : (l'.drop 1).length = l'.length - 1 := by simp
        have HZ3 : Hid (starsR (.str rt') (l'.drop 1) = Z) := Lib.hid (by rw [← HZ.out, starsR_at rt' l' hl0, if_pos h42])
        generalize l'.drop 1 = dd at *
        have hpb6 := HPB5.out.left dd
        have HPB6 := Lib.hid hpb6
        have HW := Lib.hid (with_any (.slice A8 n8 c8) (xs ++ ys) dd false k' ⟨4, 0, k', 0⟩ _ hpb6.nv (by have := HN8.out; omega))
        rw [← HN8.out] at HW
        have HRP2 : Hid (RepR ((xs ++ ys) ++ [⟨4, 0, k', 0⟩]) (.str rt') n8) := Lib.hid ⟨k', by rw [HN8.out, List.getElem?_append_right (Nat.le_refl _), Nat.sub_self]; rfl, HRP.out.app _⟩
        clear hpb6 h42 HPB5
        go_wp2_with fail
        refine HW.out.mono ?_
        rintro e w7 ⟨⟨v7, rfl, hn7⟩, hb7⟩
        have hpb7 := HPB6.out.below hb7
        have HPB8 := Lib.hid (hpb7.all (l' := dd) (b' := false) (k' := n8) hn7)
        obtain ⟨A9, c9, rfl, _⟩ := own_shape hn7
        obtain ⟨n9, hn9⟩ : ∃ n9, n9 = (xs ++ ys ++ [(⟨4, 0, k', 0⟩ : N4)]).length := ⟨_, rfl⟩
        rw [← hn9] at HPB8 ⊢
        have HN9 := Lib.hid hn9
        clear hn9
        clear hb7 hn7 HPB6 HW HZ HRP a0 a1 a2 a3 z0 z1 z2 z3 d0 d1 d2 d3 x0 x1 x2 x3
        obtain ⟨a0, a1, a2, a3, z0, z1, z2, z3⟩ := four_at hpb7.p
        obtain ⟨d0, d1, d2, d3, x0, x1, x2, x3⟩ := four_at hpb7.r
        clear hpb7
        go_wp2_with fail
        go_roundg dd.length
        case measure => omega
        case rel => exact ⟨_, ys ++ [⟨4, 0, k', 0⟩], dd, n8, .str rt', rfl, by rw [← List.append_assoc]; exact HPB8.out, by have := HN8.out; rw [← List.append_assoc, List.length_append]; simp only [List.length_cons, List.length_nil]; omega, by omega, by rw [← List.append_assoc]; exact HRP2.out, HZ3⟩
      · have q1 : ¬ ((bu l' 0).toNat : Int) = 42 := fun e => h42 (UInt8.toNat_inj.1 (by show (bu l' 0).toNat = 42; omega))
        have q2 : ¬ (bu l' 0).toNat = 42 := by omega
        have q3 : (((bu l' 0).toNat : Int) == 42) = false := by simpa using q1
        have HSN : Hid (starsR rt' l' = (rt', l')) := Lib.hid (starsR_no h42)
        clear h42
        go_wp2_with fail
        refine bodyPost_ret (res_cell1 rfl _ _ (w.heap.size + 1) 36 _ (0, 0) _ rfl (set4 HPB5.out.r) Tryz.underlying36 rfl (by kernel_rfl)) rfl ?_
        refine ⟨⟨_, ys, l', false, k', rfl, HPB5.out.nv.set4 HPB5.out.r _ _ _ _, by have := HN8.out; omega, hll, ?_⟩, below_set4 HPB5.out.bl (Nat.le_succ _) _ _ _ _⟩
        rw [HXZ.out, ← HZ.out, HSN.out]
        exact ⟨rfl, rfl, HRP.out⟩
end Go.Proofs.YtchhbnnpannnhaaGreatDoor

namespace Go.Proofs.YtchhbnnpannnhaaGreatDoor
open Go.RowKit IntWalk
attribute [local go_sem] byte_at str_app

theorem rowRL_at (O : RRd) (f : Nat) (n : Option Rt) (s : List UInt8) (h : 0 < s.length) : rowRL O (f + 1) n s = if bu s 0 = 124 ∨ bu s 0 = 41 then some (n.getD .emp, s) else
    match O s with
    | none => none
    | some (m, s2) => rowRL O f (some (addR n (starsR m s2).1)) (starsR m s2).2 := by
  cases s with
  | nil => exact absurd h (by simp)
  | cons c s => rfl
theorem eitRL_at (R : RRd) (f : Nat) (n : Rt) (s : List UInt8) (h : 0 < s.length) : eitRL R (f + 1) n s = if bu s 0 = 124 then
      match R (s.drop 1) with
      | none => none
      | some (m, s2) => eitRL R f (.alt n m) s2
    else some (n, s) := by
  cases s with
  | nil => exact absurd h (by simp)
  | cons c s => rfl
/-- A row's step, by its parts with their stars. -/
theorem rowRL_part (E : RRd) (f : Nat) (n : Option Rt) (s : List UInt8) (h : 0 < s.length) (h1 : bu s 0 ≠ 124) (h2 : bu s 0 ≠ 41) : rowRL (oneR E) (f + 1) n s = match partR E s with
    | none => none
    | some (m, s2) => rowRL (oneR E) f (some (addR n m)) s2 := by
  rw [rowRL_at _ _ _ _ h, if_neg (by intro h'; rcases h' with h' | h'; exact h1 h'; exact h2 h')]
  unfold partR
  cases oneR E s with
  | none => rfl
  | some p => rfl
theorem rowRL_stop (O : RRd) (f : Nat) (n : Option Rt) (s : List UInt8) (h : s = [] ∨ bu s 0 = 124 ∨ bu s 0 = 41) : rowRL O (f + 1) n s = some (n.getD .emp, s) := by
  cases s with
  | nil => rfl
  | cons c s =>
    rcases h with h | h | h
    · cases h
    · exact if_pos (.inl h)
    · exact if_pos (.inr h)
/-- What a row has read so far, and its tree: none yet (the node laid first is its tree), or some. -/
def RowAt (xs : List N4) (o : Option Rt) (k : Nat) (first : Bool) : Prop := RepR xs (o.getD .emp) k ∧ first = o.isNone
set_option maxRecDepth 100000 in
set_option maxHeartbeats 8000000 in
theorem rowR_walk (E : RRd) (n : Nat) (hP : ConPart E n) (hS : ∀ s t r, partR E s = some (t, r) → r.length < s.length) : ConRowR (rowR E) n := by
  intro v xs l k w hv hn hb
  obtain ⟨A1, c1, rfl, _⟩ := own_shape hv
  have HST := Lib.hid (PB.start (l := l) (b := false) (k := k) hv)
  have HX : Hid (rowR E l = rowRL (oneR E) (l.length + 1) none l) := Lib.hid rfl
  have HW := Lib.hid (fun W h => with_any (.slice A1 xs.length c1) xs l false k ⟨0, 0, 0, 0⟩ W h (by omega))
  have HP := Lib.hid hP; have HS := Lib.hid hS
  generalize rowR E l = X at *
  clear hv hP hS
  go_enter Tryz.func37, Tryz.ntmps37
  have hpb0 := HST.out
  obtain ⟨a0, a1, a2, a3, z0, z1, z2, z3⟩ := four_at hpb0.p
  obtain ⟨d0, d1, d2, d3, x0, x1, x2, x3⟩ := four_at hpb0.r
  have HW0 := Lib.hid (HW.out _ hpb0.nv)
  go_wp2_with fail
  refine HW0.out.mono ?_
  rintro e w3 ⟨⟨v3, rfl, hn3⟩, hb3⟩
  have hpb3 := hpb0.below hb3
  have HPB2 := Lib.hid (hpb3.all (l' := l) (b' := false) (k' := xs.length) hn3)
  obtain ⟨A3, c3, rfl, _⟩ := own_shape hn3
  obtain ⟨n3, hn3e⟩ : ∃ n3, n3 = (xs ++ [(⟨0, 0, 0, 0⟩ : N4)]).length := ⟨_, rfl⟩
  rw [← hn3e] at HPB2 ⊢
  have HN3 := Lib.hid hn3e
  clear hb3 hn3 hn3e hpb0 HST HW HW0 a0 a1 a2 a3 z0 z1 z2 z3 d0 d1 d2 d3 x0 x1 x2 x3
  obtain ⟨a0, a1, a2, a3, z0, z1, z2, z3⟩ := four_at hpb3.p
  obtain ⟨d0, d1, d2, d3, x0, x1, x2, x3⟩ := four_at hpb3.r
  clear hpb3
  have HR2 : Hid (RowAt (xs ++ [⟨0, 0, 0, 0⟩]) none xs.length true) := Lib.hid ⟨by show _ = _; rw [List.getElem?_append_right (Nat.le_refl _), Nat.sub_self]; rfl, rfl⟩
  go_wp2_with fail
  go_loopg [3, 4] (l.length + 1) (fun f fv lv wr => ∃ (v' : Value) (ys : List N4) (l' : List UInt8) (b' : Bool) (k' : Nat) (fi : Bool), fv = .bool fi ∧ PB w wr v' l' b' k' (xs ++ ys) ∧ (xs ++ ys).length + 4 * l'.length ≤ xs.length + 4 * l.length + 1 ∧ l'.length ≤ l.length ∧ ((b' = false ∧ f = l'.length + 1 ∧ ∃ (o : Option Rt) (F : Nat), l'.length < F ∧ RowAt (xs ++ ys) o k' fi ∧ Hid (X = rowRL (oneR E) F o l')) ∨ (b' = true ∧ f = 0 ∧ Hid (X = none))))
  case atStart => exact ⟨_, [⟨0, 0, 0, 0⟩], l, false, xs.length, true, rfl, HPB2.out, by have := HN3.out; rw [List.length_append] at *; simp only [List.length_cons, List.length_nil] at *; omega, Nat.le_refl _, .inl ⟨rfl, rfl, none, l.length + 1, Nat.lt_succ_self _, HR2.out, HX⟩⟩
  case round =>
    obtain ⟨v', ys, l', b', k', fi, rfl, hpb, hle, hll, hcase⟩ := hrel
    clear HPB2 HR2 HX
    obtain ⟨A8, c8, rfl, _⟩ := own_shape hpb.nv
    obtain ⟨n8, hn8⟩ : ∃ n8, n8 = (xs ++ ys).length := ⟨_, rfl⟩
    rw [← hn8] at hpb hle
    have HN8 := Lib.hid hn8
    clear hn8
    obtain ⟨a0, a1, a2, a3, z0, z1, z2, z3⟩ := four_at hpb.p
    obtain ⟨d0, d1, d2, d3, x0, x1, x2, x3⟩ := four_at hpb.r
    have HPB := Lib.hid hpb
    clear hpb
    rcases hcase with ⟨rfl, rfl, o, F, hF, hra, HX2⟩ | ⟨rfl, rfl, HX2⟩
    rotate_left
    · go_wp2_with fail
      refine bodyPost_ret (res_cell1 rfl _ _ (w.heap.size + 1) 36 _ (0, 0) _ rfl (set4 HPB.out.r) Tryz.underlying36 rfl (by kernel_rfl)) rfl ?_
      refine ⟨⟨_, ys, l', true, k', rfl, HPB.out.nv.set4 HPB.out.r _ _ _ _, by have := HN8.out; omega, hll, ?_⟩, below_set4 HPB.out.bl (Nat.le_succ _) _ _ _ _⟩
      rw [HX2.out]
      try exact rfl
    obtain ⟨F, rfl⟩ : ∃ F', F = F' + 1 := ⟨F - 1, by omega⟩
    have HRA := Lib.hid hra
    rcases Nat.eq_zero_or_pos l'.length with h0 | h0
    · obtain rfl := List.length_eq_zero_iff.1 h0
      have HX3 : Hid (X = some (o.getD .emp, [])) := Lib.hid (by rw [HX2.out, rowRL_stop _ _ _ _ (.inl rfl)])
      clear HX2 hra
      go_wp2_with fail
      refine bodyPost_ret (res_cell1 rfl _ _ (w.heap.size + 1) 36 _ (0, 0) _ rfl (set4 HPB.out.r) Tryz.underlying36 rfl (by kernel_rfl)) rfl ?_
      refine ⟨⟨_, ys, [], false, k', rfl, HPB.out.nv.set4 HPB.out.r _ _ _ _, by have := HN8.out; omega, by simp, ?_⟩, below_set4 HPB.out.bl (Nat.le_succ _) _ _ _ _⟩
      rw [HX3.out]
      exact ⟨rfl, rfl, HRA.out.1⟩
    have p1 : (0 : Int) < (l'.length : Int) := by omega
    have HNX := Lib.hid (fun W => next_any (.slice A8 n8 c8) l' false k' W A8 n8 c8 rfl (by omega))
    go_wp2_with fail
    refine (HNX.out _).mono ?_
    rintro e w5 ⟨rfl, hb5⟩
    have hpb5 := HPB.out.below hb5
    have HPB5 := Lib.hid hpb5
    clear hb5 HPB a0 a1 a2 a3 z0 z1 z2 z3 d0 d1 d2 d3 x0 x1 x2 x3
    obtain ⟨a0, a1, a2, a3, z0, z1, z2, z3⟩ := four_at hpb5.p
    obtain ⟨d0, d1, d2, d3, x0, x1, x2, x3⟩ := four_at hpb5.r
    clear hpb5
    by_cases h124 : bu l' 0 = 124
    · have HX3 : Hid (X = some (o.getD .emp, l')) := Lib.hid (by rw [HX2.out, rowRL_stop _ _ _ _ (.inr (.inl h124))])
      have q1 : ((bu l' 0).toNat : Int) = 124 := by rw [h124]; rfl
      have q2 : (((bu l' 0).toNat : Int) != 124) = false := by rw [q1]; rfl
      have q3 : (bu l' 0).toNat = 124 := by omega
      clear HX2 hra h124
      go_wp2_with fail
      refine bodyPost_ret (res_cell1 rfl _ _ (w.heap.size + 1) 36 _ (0, 0) _ rfl (set4 HPB5.out.r) Tryz.underlying36 rfl (by kernel_rfl)) rfl ?_
      refine ⟨⟨_, ys, l', false, k', rfl, HPB5.out.nv.set4 HPB5.out.r _ _ _ _, by have := HN8.out; omega, hll, ?_⟩, below_set4 HPB5.out.bl (Nat.le_succ _) _ _ _ _⟩
      rw [HX3.out]
      exact ⟨rfl, rfl, HRA.out.1⟩
    have q1 : ¬ ((bu l' 0).toNat : Int) = 124 := fun e => h124 (UInt8.toNat_inj.1 (by show (bu l' 0).toNat = 124; omega))
    have q2 : (((bu l' 0).toNat : Int) != 124) = true := by simpa using q1
    have q3 : ¬ (bu l' 0).toNat = 124 := by omega
    go_wp2_with fail
    refine (HNX.out _).mono ?_
    rintro e w6 ⟨rfl, hb6⟩
    have hpb6 := HPB5.out.below hb6
    have HPB6 := Lib.hid hpb6
    clear hb6 HPB5 HNX a0 a1 a2 a3 z0 z1 z2 z3 d0 d1 d2 d3 x0 x1 x2 x3
    obtain ⟨a0, a1, a2, a3, z0, z1, z2, z3⟩ := four_at hpb6.p
    obtain ⟨d0, d1, d2, d3, x0, x1, x2, x3⟩ := four_at hpb6.r
    clear hpb6
    by_cases h41 : bu l' 0 = 41
    · have HX3 : Hid (X = some (o.getD .emp, l')) := Lib.hid (by rw [HX2.out, rowRL_stop _ _ _ _ (.inr (.inr h41))])
      have q4 : ((bu l' 0).toNat : Int) = 41 := by rw [h41]; rfl
      have q5 : (((bu l' 0).toNat : Int) != 41) = false := by rw [q4]; rfl
      have q6 : (bu l' 0).toNat = 41 := by omega
      clear HX2 hra h41 h124
      go_wp2_with fail
      refine bodyPost_ret (res_cell1 rfl _ _ (w.heap.size + 1) 36 _ (0, 0) _ rfl (set4 HPB6.out.r) Tryz.underlying36 rfl (by kernel_rfl)) rfl ?_
      refine ⟨⟨_, ys, l', false, k', rfl, HPB6.out.nv.set4 HPB6.out.r _ _ _ _, by have := HN8.out; omega, hll, ?_⟩, below_set4 HPB6.out.bl (Nat.le_succ _) _ _ _ _⟩
      rw [HX3.out]
      exact ⟨rfl, rfl, HRA.out.1⟩
    have q4 : ¬ ((bu l' 0).toNat : Int) = 41 := fun e => h41 (UInt8.toNat_inj.1 (by show (bu l' 0).toNat = 41; omega))
    have q5 : (((bu l' 0).toNat : Int) != 41) = true := by simpa using q4
    have q6 : ¬ (bu l' 0).toNat = 41 := by omega
    have HX3 := Lib.hid (HX2.out.trans (rowRL_part E F o l' h0 h124 h41))
    have HCP := Lib.hid (fun W (h : NV W 0 (.slice A8 n8 c8) (xs ++ ys)) => HP.out (.slice A8 n8 c8) (xs ++ ys) l' k' W h h0 (by omega) (by have := HN8.out; omega))
    have HSP := Lib.hid (HS.out l')
    obtain ⟨hrp, hfi⟩ := hra
    have HRP := Lib.hid hrp
    have HCP6 := Lib.hid (HCP.out _ HPB6.out.nv)
    clear HX2 h124 h41 HRA hrp HCP
    obtain ⟨rfl, rfl⟩ | ⟨a, rfl, rfl⟩ : (o = none ∧ fi = true) ∨ ∃ a, o = some a ∧ fi = false := by
      cases o with
      | none => exact .inl ⟨rfl, hfi⟩
      | some a => exact .inr ⟨a, rfl, hfi⟩
    · clear hfi
      go_wp2_with fail
      refine HCP6.out.mono ?_
      rintro e w7 ⟨⟨v7, ys7, l7, b7, k7, rfl, hn7, hle7, hll7, hm7⟩, hb7⟩
      have hpb7 := HPB6.out.below hb7
      have HPB8 := Lib.hid (hpb7.all (l' := l7) (b' := b7) (k' := k7) hn7)
      obtain ⟨A7, c7, rfl, _⟩ := own_shape hn7
      obtain ⟨n7, hn7e⟩ : ∃ n7, n7 = (xs ++ ys ++ ys7).length := ⟨_, rfl⟩
      rw [← hn7e] at HPB8 hle7 ⊢
      have HN7 := Lib.hid hn7e
      have HW8 := Lib.hid (fun W (h : NV W 0 (.slice A7 n7 c7) (xs ++ ys ++ ys7)) => with_any (.slice A7 n7 c7) (xs ++ ys ++ ys7) l7 b7 k7 ⟨3, 0, k', k7⟩ W h (by have := HN7.out; have := HN8.out; omega))
      rw [← hn7e] at HW8
      clear hb7 hn7 hn7e HPB6 HCP6 q1 q2 q3 q4 q5 q6 p1 a0 a1 a2 a3 z0 z1 z2 z3 d0 d1 d2 d3 x0 x1 x2 x3
      obtain ⟨a0, a1, a2, a3, z0, z1, z2, z3⟩ := four_at hpb7.p
      obtain ⟨d0, d1, d2, d3, x0, x1, x2, x3⟩ := four_at hpb7.r
      clear hpb7
      have HRES : Hid ((partR E l' = none ∧ b7 = true ∧ X = none) ∨ (∃ rt, b7 = false ∧ l7.length < l'.length ∧ RepR (xs ++ ys ++ ys7) rt k7 ∧ X = rowRL (oneR E) F (some (addR none rt)) l7)) := Lib.hid (by
        cases hq : partR E l' with
        | none =>
          rw [hq] at hm7
          exact .inl ⟨rfl, hm7, by rw [HX3.out, hq]⟩
        | some p =>
          obtain ⟨rt, r⟩ := p
          rw [hq] at hm7
          obtain ⟨h1, h2, h3⟩ := hm7
          subst h2
          exact .inr ⟨rt, h1, HSP.out _ _ hq, h3, by rw [HX3.out, hq]⟩)
      clear hm7 HX3 HSP
      go_wp2_with fail
      rcases HRES.out with ⟨_, rfl, HX9⟩ | ⟨rt, rfl, hlt, hrp7, HX9⟩
      · have HXN := Lib.hid HX9
        clear HX9 HRES
        go_roundg 0
        case measure => omega
        case rel => exact ⟨_, ys ++ ys7, l7, true, k7, false, rfl, by rw [← List.append_assoc]; exact HPB8.out, by have := HN7.out; have := HN8.out; rw [← List.append_assoc]; omega, by omega, .inr ⟨rfl, rfl, HXN⟩⟩
      · have HXN := Lib.hid HX9
        clear HX9 HRES
        go_roundg (l7.length + 1)
        case measure => omega
        case rel => exact ⟨_, ys ++ ys7, l7, false, k7, false, rfl, by rw [← List.append_assoc]; exact HPB8.out, by have := HN7.out; have := HN8.out; rw [← List.append_assoc]; omega, by omega, .inl ⟨rfl, rfl, some rt, F, by omega, ⟨by rw [← List.append_assoc]; exact hrp7, rfl⟩, HXN⟩⟩
    · clear hfi
      go_wp2_with fail
      refine HCP6.out.mono ?_
      rintro e w7 ⟨⟨v7, ys7, l7, b7, k7, rfl, hn7, hle7, hll7, hm7⟩, hb7⟩
      have hpb7 := HPB6.out.below hb7
      have HPB8 := Lib.hid (hpb7.all (l' := l7) (b' := b7) (k' := k7) hn7)
      obtain ⟨A7, c7, rfl, _⟩ := own_shape hn7
      obtain ⟨n7, hn7e⟩ : ∃ n7, n7 = (xs ++ ys ++ ys7).length := ⟨_, rfl⟩
      rw [← hn7e] at HPB8 hle7 ⊢
      have HN7 := Lib.hid hn7e
      have HW8 := Lib.hid (fun W (h : NV W 0 (.slice A7 n7 c7) (xs ++ ys ++ ys7)) => with_any (.slice A7 n7 c7) (xs ++ ys ++ ys7) l7 b7 k7 ⟨3, 0, k', k7⟩ W h (by have := HN7.out; have := HN8.out; omega))
      rw [← hn7e] at HW8
      clear hb7 hn7 hn7e HPB6 HCP6 q1 q2 q3 q4 q5 q6 p1 a0 a1 a2 a3 z0 z1 z2 z3 d0 d1 d2 d3 x0 x1 x2 x3
      obtain ⟨a0, a1, a2, a3, z0, z1, z2, z3⟩ := four_at hpb7.p
      obtain ⟨d0, d1, d2, d3, x0, x1, x2, x3⟩ := four_at hpb7.r
      clear hpb7
      have HRES : Hid ((partR E l' = none ∧ b7 = true ∧ X = none) ∨ (∃ rt, b7 = false ∧ l7.length < l'.length ∧ RepR (xs ++ ys ++ ys7) rt k7 ∧ X = rowRL (oneR E) F (some (addR (some a) rt)) l7)) := Lib.hid (by
        cases hq : partR E l' with
        | none =>
          rw [hq] at hm7
          exact .inl ⟨rfl, hm7, by rw [HX3.out, hq]⟩
        | some p =>
          obtain ⟨rt, r⟩ := p
          rw [hq] at hm7
          obtain ⟨h1, h2, h3⟩ := hm7
          subst h2
          exact .inr ⟨rt, h1, HSP.out _ _ hq, h3, by rw [HX3.out, hq]⟩)
      clear hm7 HX3 HSP
      have HW9 := Lib.hid (HW8.out _ HPB8.out.nv)
      clear HW8
      go_wp2_with fail
      refine HW9.out.mono ?_
      rintro e w9 ⟨⟨v9, rfl, hn9⟩, hb9⟩
      have hpb9 := HPB8.out.below hb9
      have HPB9 := Lib.hid (hpb9.all (l' := l7) (b' := b7) (k' := n7) hn9)
      obtain ⟨A9, c9, rfl, _⟩ := own_shape hn9
      obtain ⟨n9, hn9e⟩ : ∃ n9, n9 = (xs ++ ys ++ ys7 ++ [(⟨3, 0, k', k7⟩ : N4)]).length := ⟨_, rfl⟩
      rw [← hn9e] at HPB9 ⊢
      have HN9 := Lib.hid hn9e
      clear hb9 hn9 hn9e HPB8 HW9 a0 a1 a2 a3 z0 z1 z2 z3 d0 d1 d2 d3 x0 x1 x2 x3
      obtain ⟨a0, a1, a2, a3, z0, z1, z2, z3⟩ := four_at hpb9.p
      obtain ⟨d0, d1, d2, d3, x0, x1, x2, x3⟩ := four_at hpb9.r
      clear hpb9
      go_wp2_with fail
      have hlen9 : n9 = n7 + 1 := by have h9 := HN9.out; have h7 := HN7.out; rw [List.length_append] at h9; simp only [List.length_cons, List.length_nil] at h9; omega
      rcases HRES.out with ⟨_, rfl, HX9⟩ | ⟨rt, rfl, hlt, hrp7, HX9⟩
      · have HXN := Lib.hid HX9
        clear HX9 HRES
        go_roundg 0
        case measure => omega
        case rel => exact ⟨_, ys ++ ys7 ++ [⟨3, 0, k', k7⟩], l7, true, n7, false, rfl, by rw [← List.append_assoc, ← List.append_assoc]; exact HPB9.out, by have := HN7.out; have := HN8.out; have := HN9.out; rw [← List.append_assoc, ← List.append_assoc]; omega, by omega, .inr ⟨rfl, rfl, HXN⟩⟩
      · have HXN := Lib.hid HX9
        have HR9 : Hid (RepR (xs ++ ys ++ ys7 ++ [⟨3, 0, k', k7⟩]) (.seq a rt) n7) := Lib.hid ⟨k', k7, by rw [HN7.out, List.getElem?_append_right (Nat.le_refl _), Nat.sub_self]; rfl, (HRP.out.app ys7).app _, hrp7.app _⟩
        clear HX9 HRES hrp7
        go_roundg (l7.length + 1)
        case measure => omega
        case rel => exact ⟨_, ys ++ ys7 ++ [⟨3, 0, k', k7⟩], l7, false, n7, false, rfl, by rw [← List.append_assoc, ← List.append_assoc]; exact HPB9.out, by have := HN7.out; have := HN8.out; have := HN9.out; rw [← List.append_assoc, ← List.append_assoc]; omega, by omega, .inl ⟨rfl, rfl, some (.seq a rt), F, by omega, ⟨by rw [← List.append_assoc, ← List.append_assoc]; exact HR9.out, rfl⟩, HXN⟩⟩
end Go.Proofs.YtchhbnnpannnhaaGreatDoor
