/- The document's ways of a pattern: memory, and the small cases. No condition. -/
import Derived.Test.YtchhbnnpannnhaaDoorNfW
import Derived.Test.YtchhbnnpannnhaaDoorRegFs
namespace Go.Proofs.YtchhbnnpannnhaaDoor
open Go.RowKit IntWalk Go.Maps
set_option linter.unusedSimpArgs false
set_option linter.unusedVariables false
attribute [local go_sem] byte_at str_app

/-- A row of places that is read; its block is one of numbers. -/
def IW (W : World) (v : Value) (L : List Nat) : Prop := ∃ A c, v = Value.slice A L.length c ∧ (0 < L.length → ∃ (b off : Nat) (cu : Array Value), A = some ⟨b, off, none⟩ ∧ W.heap[b]? = some (Obj.cells cu 3 (0, 0)) ∧ ∀ j, j < L.length → cu[off + j]? = some (.int .i64 (gi (zs L) j)))
/-- All blocks but the ways' stay. -/
def KeepW (W W' : World) : Prop := ∀ (k : Nat) (cu : Array Value) (t : TypeId), W.heap[k]? = some (Obj.cells cu t (0, 0)) → t ≠ 44 → W'.heap[k]? = some (Obj.cells cu t (0, 0))
section
variable {W W' W2 : World} {v : Value} {L : List Nat}
theorem KeepW.refl (W : World) : KeepW W W := fun _ _ _ h _ => h
theorem KeepW.trans (h : KeepW W W') (h2 : KeepW W' W2) : KeepW W W2 := fun k cu t hk ht => h2 k cu t (h k cu t hk ht) ht
theorem KeepW.of {B : Nat} (hb : Below B W W') (hB : W.heap.size ≤ B) : KeepW W W' := fun k cu t hk _ => (hb.block k (by have := (Array.getElem?_eq_some_iff.1 hk).1; omega)).trans hk
theorem KeepW.set {g i : Nat} {u : Value} {cs : Array Value} {fr : Nat × Nat} (h : W.heap[g]? = some (Obj.cells cs 44 fr)) : KeepW W (W.setCell ⟨g, i, none⟩ u) := fun k cu t hk ht => by
  have hne : k ≠ g := fun e => by
    subst e
    rw [hk] at h
    injection h with h; injection h with _ h _
    exact ht h
  exact (Below.heap_setCell _ _ _ _ hne).trans hk
theorem IW.keep (h : IW W v L) (hk : KeepW W W') : IW W' v L := by
  obtain ⟨A, c, e, h2⟩ := h
  refine ⟨A, c, e, fun hn => ?_⟩
  obtain ⟨b, off, cu, e1, e2, e3⟩ := h2 hn
  exact ⟨b, off, cu, e1, hk b cu _ e2 (by decide), e3⟩
theorem IW.ints {A : Option Addr} {n c : Nat} (h : IW W (.slice A n c) L) : Ints W W.heap.size A n (zs L) ∧ n = L.length := by
  obtain ⟨A', c', e, h2⟩ := h
  injection e with e1 e2 e3
  subst e1 e2 e3
  refine ⟨⟨by simp, fun hn => ?_⟩, rfl⟩
  obtain ⟨b, off, cu, e1, e2, e3⟩ := h2 hn
  exact ⟨b, off, e1, (Array.getElem?_eq_some_iff.1 e2).1, fun j hj => by rw [cell_of_row W b _ cu _ (0, 0) e2]; exact e3 j hj⟩
theorem IW.shape (h : IW W v L) : ∃ A c, v = .slice A L.length c := by obtain ⟨A, c, e, _⟩ := h; exact ⟨A, c, e⟩
theorem IW.nil (W : World) : IW W (.slice none 0 0) [] := ⟨none, 0, rfl, fun h => absurd h (by simp)⟩
theorem IW.own {D : Nat} (h : W.ownsRow D 3 1 v L.length (L.map eI)) : IW W v L := by
  rcases h.2 with ⟨rfl, hz⟩ | ⟨g, cap, cur, rfl, hg, hh, h1, h2, h3, h4⟩
  · have : L = [] := List.eq_nil_of_length_eq_zero hz
    subst this
    exact IW.nil W
  · refine ⟨some ⟨g, 0, none⟩, cap, rfl, fun hp => ⟨g, 0, cur, rfl, hh, fun j hj => ?_⟩⟩
    have := World.ownsRow.cells h (g := g) rfl j (.int .i64 (gi (zs L) j)) (by rw [List.getElem?_map, List.getElem?_eq_getElem hj, gi_eq (by simpa using hj)]; simp)
    rw [Addr.add_lit, cell_of_row W g _ cur _ (0, 0) hh] at this
    exact this
theorem IW.one (w : World) (x : Nat) : IW (w.alloc (.cells #[.int .i64 (x : Int)] 3)) (.slice (some ⟨w.heap.size, 0, none⟩) 1 1) [x] :=
  ⟨_, _, rfl, fun _ => ⟨w.heap.size, 0, _, rfl, heap_alloc_new w _, fun j hj => by
    obtain rfl : j = 0 := by simpa using hj
    rfl⟩⟩
theorem PW.keep {D : Nat} {L : List (Nat × Nat)} (h : PW W D v L) (hk : KeepW W W') : PW W' D v L := by
  obtain ⟨KC, h1, h2, h3⟩ := h
  refine ⟨KC, h1, ⟨h2.1, ?_⟩, fun j p hp => ?_⟩
  · rcases h2.2 with h | ⟨g, cap, cur, e, hg, hh, r⟩
    · exact .inl h
    · exact .inr ⟨g, cap, cur, e, hg, hk g cur _ hh (by decide), r⟩
  · obtain ⟨b, e1, e2⟩ := h3 j p hp
    exact ⟨b, e1, hk b _ _ e2 (by decide)⟩
theorem NV.keepW {D : Nat} {xs : List N4} (h : NV W D v xs) (hk : KeepW W W') : NV W' D v xs := by
  refine ⟨h.1, ?_⟩
  rcases h.2 with h | ⟨g, cap, cur, e, hg, hh, r⟩
  · exact .inl h
  · exact .inr ⟨g, cap, cur, e, hg, hk g cur _ hh (by decide), r⟩
end
/-- A ways' block. -/
def Wc (W : World) (g : Nat) (n : Bool) (f s q : Value) (k : Nat) : Prop := W.heap[g]? = some (Obj.cells #[.bool n, f, s, q, .int .i64 (k : Int)] 44 (0, 0))
theorem Wc.all {W : World} {g : Nat} {n : Bool} {f s q : Value} {k : Nat} (h : Wc W g n f s q k) : (W.cell? ⟨g, 0, none⟩ = some (.bool n) ∧ W.cell? ⟨g, 1, none⟩ = some f ∧ W.cell? ⟨g, 2, none⟩ = some s ∧ W.cell? ⟨g, 3, none⟩ = some q ∧ W.cell? ⟨g, 4, none⟩ = some (.int .i64 (k : Int))) ∧
    W.frozen? ⟨g, 0, none⟩ = false ∧ W.frozen? ⟨g, 1, none⟩ = false ∧ W.frozen? ⟨g, 2, none⟩ = false ∧ W.frozen? ⟨g, 3, none⟩ = false ∧ W.frozen? ⟨g, 4, none⟩ = false := by
  have h : W.heap[g]? = some (Obj.cells #[.bool n, f, s, q, .int .i64 (k : Int)] 44 (0, 0)) := h
  exact ⟨⟨by rw [Lib.cell_of_heap h]; rfl, by rw [Lib.cell_of_heap h]; rfl, by rw [Lib.cell_of_heap h]; rfl, by rw [Lib.cell_of_heap h]; rfl, by rw [Lib.cell_of_heap h]; rfl⟩, Lib.frozen_of_heap h 0, Lib.frozen_of_heap h 1, Lib.frozen_of_heap h 2, Lib.frozen_of_heap h 3, Lib.frozen_of_heap h 4⟩
theorem Wc.lt {W : World} {g : Nat} {n : Bool} {f s q : Value} {k : Nat} (h : Wc W g n f s q k) : g < W.heap.size := (Array.getElem?_eq_some_iff.1 h).1
theorem Wc.below {W W' : World} {g B : Nat} {n : Bool} {f s q : Value} {k : Nat} (h : Wc W g n f s q k) (hb : Below B W W') (hB : g < B) : Wc W' g n f s q k := (hb.block g hB).trans h
theorem set5 {w : World} {g : Nat} {a b c d e x y z u r : Value} {t : TypeId} (h : w.heap[g]? = some (.cells #[a, b, c, d, e] t)) : (((((w.setCell ⟨g, 0, none⟩ x).setCell ⟨g, 1, none⟩ y).setCell ⟨g, 2, none⟩ z).setCell ⟨g, 3, none⟩ u).setCell ⟨g, 4, none⟩ r).heap[g]? = some (.cells #[x, y, z, u, r] t) := by
  simp [World.setCell, Array.getElem?_modify, h]
theorem below_set5 {w w4 : World} {B g : Nat} (h : Below B w w4) (hg : B ≤ g) (x y z u r : Value) : Below B w (((((w4.setCell ⟨g, 0, none⟩ x).setCell ⟨g, 1, none⟩ y).setCell ⟨g, 2, none⟩ z).setCell ⟨g, 3, none⟩ u).setCell ⟨g, 4, none⟩ r) :=
  ((((h.setCell (p := ⟨g, 0, none⟩) hg _).setCell (p := ⟨g, 1, none⟩) hg _).setCell (p := ⟨g, 2, none⟩) hg _).setCell (p := ⟨g, 3, none⟩) hg _).setCell (p := ⟨g, 4, none⟩) hg _
theorem keep_set5 {w : World} {g : Nat} {a b c d e : Value} (h : w.heap[g]? = some (.cells #[a, b, c, d, e] 44)) (x y z u r : Value) : KeepW w (((((w.setCell ⟨g, 0, none⟩ x).setCell ⟨g, 1, none⟩ y).setCell ⟨g, 2, none⟩ z).setCell ⟨g, 3, none⟩ u).setCell ⟨g, 4, none⟩ r) := fun k cu t hk ht => by
  have hne : k ≠ g := fun e => by
    subst e
    rw [hk] at h
    injection h with h; injection h with _ h _
    exact ht h
  exact (Below.heap_setCell _ _ _ _ hne).trans ((Below.heap_setCell _ _ _ _ hne).trans ((Below.heap_setCell _ _ _ _ hne).trans ((Below.heap_setCell _ _ _ _ hne).trans ((Below.heap_setCell _ _ _ _ hne).trans hk))))
abbrev wz : Obj := .cells #[.bool false, .slice none 0 0, .slice none 0 0, .slice none 0 0, .int .i64 0] 44
abbrev wAgg (n : Bool) (f s q : Value) (k : Nat) : Value := .agg #[.bool n, f, s, q, .int .i64 (k : Int)]
abbrev ndObj (x : N4) : Obj := .cells #[.int .i64 x.k, .int .u8 (x.c.toNat : Int), .int .i64 (x.l : Int), .int .i64 (x.r : Int)] 72
def WaysC (t : Rt) : Prop := ∀ (xs : List N4) (v : Value) (l : List UInt8) (b : Bool) (tp k a : Nat) (w : World), NV w 0 v xs → RepR xs t k → nR t ≤ 12 → ndR t ≤ 60 → a + nR t ≤ 1000 →
  Calls Tryd.prog 13 #[PV v l b tp, .int .i64 (k : Int), .int .i64 (a : Int)] w fun e w' => (∃ f s q, e = .returned (wAgg (nuR t) f s q (nR t)) ∧ IW w' f (fsR t a) ∧ IW w' s (lsR t a) ∧ PW w' 0 q (prR t a)) ∧ Below w.heap.size w w'
set_option maxRecDepth 100000 in
set_option maxHeartbeats 4000000 in
theorem ways_emp : WaysC .emp := by
  intro xs v l b tp k a w hv hr _ _ _
  have HE : Hid (nuR Rt.emp = true ∧ nR Rt.emp = 0 ∧ fsR Rt.emp a = [] ∧ lsR Rt.emp a = [] ∧ prR Rt.emp a = []) := Lib.hid ⟨rfl, rfl, rfl, rfl, rfl⟩
  generalize nuR Rt.emp = zu at *
  generalize nR Rt.emp = zn at *
  generalize fsR Rt.emp a = zf at *
  generalize lsR Rt.emp a = zl at *
  generalize prR Rt.emp a = zp at *
  have hx : xs[k]? = some ⟨0, 0, 0, 0⟩ := hr
  clear hr
  obtain ⟨g, c, rfl, hg, hk, n0, n1, n2, n3⟩ := nv_node hv hx
  obtain ⟨h1, h2, h3, hz, hB⟩ := alloc3_1 w (pObj (.slice (some ⟨g, 0, none⟩) xs.length c) l b tp) wz (ndObj ⟨0, 0, 0, 0⟩)
  have p1 : (0 : Int) ≤ (k : Int) := by omega
  have p2 : (k : Int) < (xs.length : Int) := by omega
  have HB := Lib.hid hB; have H2 := Lib.hid h2
  obtain ⟨d0, d1, d2, d3, _, _, _, _⟩ := four_at h3
  clear h1 h2 h3 hB hv hz
  go_enter Tryd.func13, Tryd.ntmps13
  go_wp2_with fail
  obtain ⟨_, q2, _, _, qB⟩ := alloc3_1 w (pObj (.slice (some ⟨g, 0, none⟩) xs.length c) l b tp) (.cells #[.bool true, .slice none 0 0, .slice none 0 0, .slice none 0 0, .int .i64 0] 44) (.cells #[.int .i64 0, .int .u8 0, .int .i64 0, .int .i64 0] 72)
  refine bodyPost_ret (res_cell1 rfl _ _ (w.heap.size + 1) 44 _ (0, 0) _ rfl q2 Tryd.underlying44 rfl (by kernel_rfl)) rfl ?_
  obtain ⟨rfl, rfl, rfl, rfl, rfl⟩ := HE.out
  exact ⟨⟨.slice none 0 0, .slice none 0 0, .slice none 0 0, rfl, IW.nil _, IW.nil _, PW.nil _ _⟩, qB⟩
set_option maxRecDepth 100000 in
set_option maxHeartbeats 4000000 in
theorem ways_sgn (d : UInt8) : WaysC (.sgn d) := by
  intro xs v l b tp k a w hv hr _ _ _
  have HE : Hid (nuR (Rt.sgn d) = false ∧ nR (Rt.sgn d) = 1 ∧ fsR (Rt.sgn d) a = [a] ∧ lsR (Rt.sgn d) a = [a] ∧ prR (Rt.sgn d) a = []) := Lib.hid ⟨rfl, rfl, rfl, rfl, rfl⟩
  generalize nuR (Rt.sgn d) = zu at *
  generalize nR (Rt.sgn d) = zn at *
  generalize fsR (Rt.sgn d) a = zf at *
  generalize lsR (Rt.sgn d) a = zl at *
  generalize prR (Rt.sgn d) a = zp at *
  have hx : xs[k]? = some ⟨1, d, 0, 0⟩ := hr
  clear hr
  obtain ⟨g, c, rfl, hg, hk, n0, n1, n2, n3⟩ := nv_node hv hx
  obtain ⟨h1, h2, h3, hz, hB⟩ := alloc3_1 w (pObj (.slice (some ⟨g, 0, none⟩) xs.length c) l b tp) wz (ndObj ⟨1, d, 0, 0⟩)
  have p1 : (0 : Int) ≤ (k : Int) := by omega
  have p2 : (k : Int) < (xs.length : Int) := by omega
  have HB := Lib.hid hB; have H2 := Lib.hid h2; have HZ := Lib.hid hz
  obtain ⟨d0, d1, d2, d3, _, _, _, _⟩ := four_at h3
  clear h1 h2 h3 hB hv hz
  go_enter Tryd.func13, Tryd.ntmps13
  go_upto_region 4 with fail
  generalize ((w.alloc (pObj (.slice (some ⟨g, 0, none⟩) xs.length c) l b tp)).alloc wz).alloc (ndObj ⟨1, d, 0, 0⟩) = W at *
  have i1 := IW.one W a
  have i2 := IW.one (W.alloc (.cells #[.int .i64 (a : Int)] 3)) a
  have HB2 := Lib.hid ((HB.out.alloc HB.out.size (.cells #[.int .i64 (a : Int)] 3)).alloc (by simp; have := HB.out.size; omega) (.cells #[.int .i64 (a : Int)] 3))
  have HI := Lib.hid (And.intro (i1.keep (KeepW.of ((Below.refl (W.alloc (.cells #[.int .i64 (a : Int)] 3)).heap.size _).alloc (Nat.le_refl _) (.cells #[.int .i64 (a : Int)] 3)) (Nat.le_refl _))) i2)
  have H4 : Hid (((W.alloc (.cells #[.int .i64 (a : Int)] 3)).alloc (.cells #[.int .i64 (a : Int)] 3)).heap[w.heap.size + 1]? = some wz) := Lib.hid (by
    have hz := HZ.out
    rw [Lib.alloc_old _ _ _ (by simp; omega), Lib.alloc_old _ _ _ (by omega)]
    exact H2.out)
  clear i1 i2
  have hwc : Wc ((W.alloc (.cells #[.int .i64 (a : Int)] 3)).alloc (.cells #[.int .i64 (a : Int)] 3)) (w.heap.size + 1) false (.slice none 0 0) (.slice none 0 0) (.slice none 0 0) 0 := H4.out
  obtain ⟨⟨_, _, _, _, _⟩, _, _, _, _, _⟩ := hwc.all
  go_wp2_with fail
  refine bodyPost_ret (res_cell1 rfl _ _ (w.heap.size + 1) 44 _ (0, 0) _ rfl (set5 H4.out) Tryd.underlying44 rfl (by kernel_rfl)) rfl ?_
  obtain ⟨rfl, rfl, rfl, rfl, rfl⟩ := HE.out
  have hk5 := keep_set5 H4.out
  refine ⟨⟨.slice (some ⟨W.heap.size, 0, none⟩) 1 1, .slice (some ⟨W.heap.size + 1, 0, none⟩) 1 1, .slice none 0 0, rfl, HI.out.1.keep (hk5 _ _ _ _ _), ?_, PW.nil _ _⟩, below_set5 HB2.out (by omega) _ _ _ _ _⟩
  have h := HI.out.2
  rw [World.size_alloc] at h
  exact h.keep (hk5 _ _ _ _ _)
end Go.Proofs.YtchhbnnpannnhaaDoor
