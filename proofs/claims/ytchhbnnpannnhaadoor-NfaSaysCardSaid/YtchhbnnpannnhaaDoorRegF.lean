/- The document's fits: its walk. No condition. -/
import Derived.Test.YtchhbnnpannnhaaDoorRegZ
namespace Go.Proofs.YtchhbnnpannnhaaDoor
open Go.RowKit IntWalk
attribute [local go_sem] byte_at str_app

theorem ncells_get : ∀ (xs : List N4) (k : Nat) (x : N4), xs[k]? = some x → (ncells xs)[k * 4]? = some (.int .i64 x.k) ∧ (ncells xs)[k * 4 + 1]? = some (.int .u8 (x.c.toNat : Int)) ∧ (ncells xs)[k * 4 + 2]? = some (.int .i64 (x.l : Int)) ∧ (ncells xs)[k * 4 + 3]? = some (.int .i64 (x.r : Int))
  | [], k, x, h => by simp at h
  | y :: xs, 0, x, h => by
    have : y = x := by simpa using h
    subst this
    exact ⟨rfl, rfl, rfl, rfl⟩
  | y :: xs, k + 1, x, h => by
    have ih := ncells_get xs k x (by simpa using h)
    have e : ∀ j, (ncells (y :: xs))[(k + 1) * 4 + j]? = (ncells xs)[k * 4 + j]? := fun j => by
      rw [show (k + 1) * 4 + j = (k * 4 + j) + 4 by omega]; rfl
    exact ⟨(e 0).trans ih.1, (e 1).trans ih.2.1, (e 2).trans ih.2.2.1, (e 3).trans ih.2.2.2⟩
theorem nv_node {w : World} {v : Value} {xs : List N4} {k : Nat} {x : N4} (h : NV w 0 v xs) (hx : xs[k]? = some x) :
    ∃ g c, v = .slice (some ⟨g, 0, none⟩) xs.length c ∧ g < w.heap.size ∧ k < xs.length ∧ w.cell? ⟨g, k * 4, none⟩ = some (.int .i64 x.k) ∧ w.cell? ⟨g, k * 4 + 1, none⟩ = some (.int .u8 (x.c.toNat : Int)) ∧ w.cell? ⟨g, k * 4 + 2, none⟩ = some (.int .i64 (x.l : Int)) ∧ w.cell? ⟨g, k * 4 + 3, none⟩ = some (.int .i64 (x.r : Int)) := by
  have hk := (List.getElem?_eq_some_iff.1 hx).1
  rcases h.2 with ⟨_, h0⟩ | ⟨g, cap, cur, hv, _, hg, _⟩
  · omega
  · subst hv
    obtain ⟨n0, n1, n2, n3⟩ := ncells_get xs k x hx
    have c0 := h.cells (g := g) rfl _ _ n0
    have c1 := h.cells (g := g) rfl _ _ n1
    have c2 := h.cells (g := g) rfl _ _ n2
    have c3 := h.cells (g := g) rfl _ _ n3
    rw [Addr.add_lit, Nat.zero_add] at c0 c1 c2 c3
    exact ⟨g, cap, rfl, (Array.getElem?_eq_some_iff.1 hg).1, hk, c0, c1, c2, c3⟩
/-- What fits has in memory: the pattern, the node. -/
structure FB (w W : World) (v : Value) (l : List UInt8) (b : Bool) (tp : Nat) (x : N4) (xs : List N4) : Prop where
  p : W.heap[w.heap.size]? = some (pObj v l b tp)
  r : W.heap[w.heap.size + 1]? = some (.cells #[.int .i64 x.k, .int .u8 (x.c.toNat : Int), .int .i64 (x.l : Int), .int .i64 (x.r : Int)] 72)
  nv : NV W 0 v xs
  bl : Below w.heap.size w W
theorem FB.below {w W W' : World} {v : Value} {l : List UInt8} {b : Bool} {tp : Nat} {x : N4} {xs : List N4} (h : FB w W v l b tp x xs) (hb : Below W.heap.size W W') : FB w W' v l b tp x xs :=
  ⟨(hb.block _ (Array.getElem?_eq_some_iff.1 h.p).1).trans h.p, (hb.block _ (Array.getElem?_eq_some_iff.1 h.r).1).trans h.r, h.nv.keep hb (Nat.le_refl _), h.bl.trans (hb.mono h.bl.size)⟩
theorem FB.drew {w W : World} {v : Value} {l : List UInt8} {b : Bool} {tp : Nat} {x : N4} {xs : List N4} (h : FB w W v l b tp x xs) : FB w W.drew v l b tp x xs := h.below (Below.drew (Below.refl _ W))
theorem FB.start {w : World} {v : Value} {l : List UInt8} {b : Bool} {tp : Nat} {xs : List N4} (x : N4) (hv : NV w 0 v xs) : FB w ((w.alloc (pObj v l b tp)).alloc (.cells #[.int .i64 x.k, .int .u8 (x.c.toNat : Int), .int .i64 (x.l : Int), .int .i64 (x.r : Int)] 72)) v l b tp x xs := by
  obtain ⟨h1, h2, h3⟩ := two_old w (pObj v l b tp) (.cells #[.int .i64 x.k, .int .u8 (x.c.toNat : Int), .int .i64 (x.l : Int), .int .i64 (x.r : Int)] 72)
  exact ⟨h1, h2, hv.keep h3 (Nat.le_refl _), h3⟩
/-- Some place in a text, up to which nothing fitted. -/
def anyP (f : Nat → Bool) (i : Nat) : Bool := (List.range i).any f
theorem anyP_step (f : Nat → Bool) (i : Nat) : anyP f (i + 1) = (anyP f i || f i) := by unfold anyP; rw [List.range_succ, List.any_append]; simp
theorem anyP_of {f : Nat → Bool} {i n : Nat} (hi : i < n) (h : f i = true) : anyP f n = true := by
  unfold anyP; rw [List.any_eq_true]; exact ⟨i, by simpa using hi, h⟩
def FitsC (t : Rt) (s : List UInt8) : Prop := ∀ (xs : List N4) (v : Value) (l : List UInt8) (b : Bool) (tp k : Nat) (w : World), NV w 0 v xs → RepR xs t k → 
  Calls Tryd.prog 24 #[PV v l b tp, .int .i64 (k : Int), S s] w fun e w' => e = .returned (.bool (mt t s)) ∧ Below w.heap.size w w'
set_option maxRecDepth 100000 in
set_option maxHeartbeats 4000000 in
theorem fits_emp (s : List UInt8) : FitsC .emp s := by
  intro xs v l b tp k w hv hr
  have hx := hr
  obtain ⟨g, c, rfl, hg, hk, n0, n1, n2, n3⟩ := nv_node hv hx
  have HST := Lib.hid (FB.start (l := l) (b := b) (tp := tp) ⟨0, 0, 0, 0⟩ hv)
  have hst := HST.out
  have p1 : (0 : Int) ≤ (k : Int) := by omega
  have p2 : (k : Int) < (xs.length : Int) := by omega
  obtain ⟨a0, a1, a2, a3, _, _, _, _⟩ := four_at hst.p
  obtain ⟨d0, d1, d2, d3, _, _, _, _⟩ := four_at hst.r
  have HM : Hid (mt .emp s = s.isEmpty) := Lib.hid rfl
  generalize mt .emp s = M at *
  clear hv hst
  rcases Nat.eq_zero_or_pos s.length with h0 | h0
  · obtain rfl := List.length_eq_zero_iff.1 h0
    go_enter Tryd.func24, Tryd.ntmps24
    go_wp2_with fail
    go_ret
    exact ⟨by rw [HM.out]; rfl, HST.out.bl⟩
  · have q0 : ¬ (s.length : Int) = 0 := by omega
    have q1 : ((s.length : Int) == 0) = false := by simpa using q0
    have q2 : ¬ s.length = 0 := by omega
    have q3 : s.isEmpty = false := by
      cases s with
      | nil => exact absurd h0 (by simp)
      | cons => rfl
    have HM2 : Hid (M = false) := Lib.hid (by rw [HM.out, q3])
    clear HM
    go_enter Tryd.func24, Tryd.ntmps24
    go_wp2_with fail
    go_ret
    exact ⟨by rw [HM2.out]; first | rfl | (simp; done) | (simp; omega), HST.out.bl⟩
set_option maxRecDepth 100000 in
set_option maxHeartbeats 4000000 in
theorem fits_sgn (d : UInt8) (s : List UInt8) : FitsC (.sgn d) s := by
  intro xs v l b tp k w hv hr
  have hx := hr
  obtain ⟨g, c, rfl, hg, hk, n0, n1, n2, n3⟩ := nv_node hv hx
  have HST := Lib.hid (FB.start (l := l) (b := b) (tp := tp) ⟨1, d, 0, 0⟩ hv)
  have hst := HST.out
  have p1 : (0 : Int) ≤ (k : Int) := by omega
  have p2 : (k : Int) < (xs.length : Int) := by omega
  obtain ⟨a0, a1, a2, a3, _, _, _, _⟩ := four_at hst.p
  obtain ⟨d0, d1, d2, d3, _, _, _, _⟩ := four_at hst.r
  have HM : Hid (mt (.sgn d) s = (s == [d])) := Lib.hid rfl
  generalize mt (.sgn d) s = M at *
  clear hv hst
  by_cases h1 : s.length = 1
  · obtain ⟨x, rfl⟩ : ∃ x, s = [x] := by
      match s, h1 with
      | [x], _ => exact ⟨x, rfl⟩
    by_cases he : x = d
    · subst he
      have HM2 : Hid (M = true) := Lib.hid (by rw [HM.out]; simp)
      clear HM
      have hb0 : bu [x] 0 = x := rfl
      go_enter Tryd.func24, Tryd.ntmps24
      go_wp2_with fail
      go_quiet (fail)
      go_wp2_with fail
      go_ret
      exact ⟨by rw [HM2.out]; first | rfl | simp, below_drewN HST.out.bl _⟩
    · have HM2 : Hid (M = false) := Lib.hid (by rw [HM.out]; simpa using he)
      have e1 : ¬ x.toNat = d.toNat := fun e => he (UInt8.toNat_inj.1 e)
      have e2 : ¬ (x.toNat : Int) = (d.toNat : Int) := by omega
      have hb0 : bu [x] 0 = x := rfl
      clear HM
      go_enter Tryd.func24, Tryd.ntmps24
      go_wp2_with fail
      go_quiet (fail)
      go_wp2_with fail
      go_ret
      exact ⟨by rw [HM2.out]; first | rfl | simp [e2] | simp [e1], below_drewN HST.out.bl _⟩
  · have HM2 : Hid (M = false) := Lib.hid (by
      rw [HM.out]
      match s, h1 with
      | [], _ => rfl
      | [x], h => exact absurd rfl h
      | _ :: _ :: _, _ => simp)
    have q0 : ¬ (s.length : Int) = 1 := by omega
    have q1 : ((s.length : Int) == 1) = false := by simpa using q0
    have q2 : decide ((s.length : Int) = 1) = false := by simpa using q0
    have q3 : decide (s.length = 1) = false := by simpa using h1
    clear HM
    go_enter Tryd.func24, Tryd.ntmps24
    go_wp2_with fail
    go_quiet (fail)
    go_wp2_with fail
    go_ret
    exact ⟨by rw [HM2.out]; first | rfl | simp, below_drewN HST.out.bl _⟩
set_option maxRecDepth 100000 in
set_option maxHeartbeats 4000000 in
theorem fits_alt (tl tr : Rt) (s : List UInt8) (h1 : FitsC tl s) (h2 : FitsC tr s) : FitsC (.alt tl tr) s := by
  intro xs v l b tp k w hv hr
  obtain ⟨ka, kb, hx, hra, hrb⟩ := hr
  obtain ⟨g, c, rfl, hg, hk, n0, n1, n2, n3⟩ := nv_node hv hx
  have HST := Lib.hid (FB.start (l := l) (b := b) (tp := tp) ⟨2, 0, ka, kb⟩ hv)
  have hst := HST.out
  have p1 : (0 : Int) ≤ (k : Int) := by omega
  have p2 : (k : Int) < (xs.length : Int) := by omega
  obtain ⟨a0, a1, a2, a3, _, _, _, _⟩ := four_at hst.p
  obtain ⟨d0, d1, d2, d3, _, _, _, _⟩ := four_at hst.r
  have HM : Hid (mt (.alt tl tr) s = (mt tl s || mt tr s)) := Lib.hid rfl
  have HL := Lib.hid (fun W (h : NV W 0 (.slice (some ⟨g, 0, none⟩) xs.length c) xs) => h1 xs _ l b tp ka W h hra)
  have HR := Lib.hid (fun W (h : NV W 0 (.slice (some ⟨g, 0, none⟩) xs.length c) xs) => h2 xs _ l b tp kb W h hrb)
  generalize mt (.alt tl tr) s = M at *
  generalize mt tl s = m1 at *
  generalize mt tr s = m2 at *
  have HLs := Lib.hid (HL.out _ hst.nv)
  clear hv hst hra hrb h1 h2 HL
  go_enter Tryd.func24, Tryd.ntmps24
  go_wp2_with fail
  refine HLs.out.mono ?_
  rintro e w1 ⟨rfl, hb1⟩
  have hfb := HST.out.below hb1
  have HFB := Lib.hid hfb
  clear a0 a1 a2 a3 d0 d1 d2 d3 hb1
  obtain ⟨a0, a1, a2, a3, _, _, _, _⟩ := four_at hfb.p
  obtain ⟨d0, d1, d2, d3, _, _, _, _⟩ := four_at hfb.r
  have HRs := Lib.hid (HR.out _ hfb.nv)
  clear hfb
  cases m1
  · go_wp2_with fail
    refine HRs.out.mono ?_
    rintro e w2 ⟨rfl, hb2⟩
    have HFB2 := Lib.hid (HFB.out.below hb2)
    clear hb2
    go_wp2_with fail
    go_ret
    exact ⟨by rw [HM.out]; rfl, HFB2.out.bl⟩
  · go_wp2_with fail
    go_ret
    exact ⟨by rw [HM.out]; rfl, HFB.out.bl⟩
end Go.Proofs.YtchhbnnpannnhaaDoor
