/- The document's reading of a pattern: part, row, either, Read: their walks. No condition. -/
import Derived.Test.YtchhbnnpannnhaaDoorRegV
namespace Go.Proofs.YtchhbnnpannnhaaDoor
open Go.RowKit IntWalk
attribute [local go_sem] byte_at str_app

/-- Node k of xs is the root of a tree. -/
def RepR (xs : List N4) : Rt → Nat → Prop
  | .emp, k => xs[k]? = some ⟨0, 0, 0, 0⟩
  | .sgn c, k => xs[k]? = some ⟨1, c, 0, 0⟩
  | .alt l r, k => ∃ a b, xs[k]? = some ⟨2, 0, a, b⟩ ∧ RepR xs l a ∧ RepR xs r b
  | .seq l r, k => ∃ a b, xs[k]? = some ⟨3, 0, a, b⟩ ∧ RepR xs l a ∧ RepR xs r b
  | .str l, k => ∃ a, xs[k]? = some ⟨4, 0, a, 0⟩ ∧ RepR xs l a
theorem get_app {xs : List N4} {k : Nat} {x : N4} (h : xs[k]? = some x) (ys : List N4) : (xs ++ ys)[k]? = some x := by
  rw [List.getElem?_append_left (List.getElem?_eq_some_iff.1 h).1]; exact h
theorem RepR.app {xs : List N4} (ys : List N4) : ∀ {t : Rt} {k : Nat}, RepR xs t k → RepR (xs ++ ys) t k
  | .emp, k, h => get_app h ys
  | .sgn c, k, h => get_app h ys
  | .alt l r, k, h => by
    obtain ⟨a, b, h, h1, h2⟩ := h
    exact ⟨a, b, get_app h ys, RepR.app ys h1, RepR.app ys h2⟩
  | .seq l r, k, h => by
    obtain ⟨a, b, h, h1, h2⟩ := h
    exact ⟨a, b, get_app h ys, RepR.app ys h1, RepR.app ys h2⟩
  | .str l, k, h => by
    obtain ⟨a, h, h1⟩ := h
    exact ⟨a, get_app h ys, RepR.app ys h1⟩
theorem starsR_at (m : Rt) (s : List UInt8) (h : 0 < s.length) : starsR m s = if bu s 0 = 42 then starsR (.str m) (s.drop 1) else (m, s) := by
  cases s with
  | nil => exact absurd h (by simp)
  | cons c s => rfl
theorem starsR_no {m : Rt} {s : List UInt8} (h : bu s 0 ≠ 42) : starsR m s = (m, s) := by
  cases s with
  | nil => rfl
  | cons c s => exact if_neg h
def partR (E : RRd) : RRd := fun s => match oneR E s with
  | none => none
  | some (m, s2) => some (starsR m s2)
theorem NV.set {W : World} {v : Value} {xs : List N4} {g : Nat} {a b c d : Value} (h : NV W 0 v xs) (hp : W.heap[g]? = some (.cells #[a, b, c, d] 24)) (i : Nat) (u : Value) : NV (W.setCell ⟨g, i, none⟩ u) 0 v xs := by
  refine ⟨h.1, ?_⟩
  rcases h.2 with h2 | ⟨g', cap, cur, hv, hg, hh, r⟩
  · exact .inl h2
  · refine .inr ⟨g', cap, cur, hv, hg, (Below.heap_setCell _ _ _ _ (fun e => ?_)).trans hh, r⟩
    have e : g' = g := e
    subst e
    rw [hp] at hh
    injection hh with hh
    injection hh with _ hh _
    exact absurd hh (by decide)
/-- The variable p and the result in memory. -/
structure PB (w W : World) (v : Value) (l : List UInt8) (b : Bool) (k : Nat) (xs : List N4) : Prop where
  p : W.heap[w.heap.size]? = some (pObj v l b k)
  r : W.heap[w.heap.size + 1]? = some (pObj (.slice none 0 0) [] false 0)
  nv : NV W 0 v xs
  bl : Below w.heap.size w W
theorem PB.below {w W W' : World} {v : Value} {l : List UInt8} {b : Bool} {k : Nat} {xs : List N4} (h : PB w W v l b k xs) (hb : Below W.heap.size W W') : PB w W' v l b k xs :=
  ⟨(hb.block _ (Array.getElem?_eq_some_iff.1 h.p).1).trans h.p, (hb.block _ (Array.getElem?_eq_some_iff.1 h.r).1).trans h.r, h.nv.keep hb (Nat.le_refl _), h.bl.trans (hb.mono h.bl.size)⟩
theorem PB.left {w W : World} {v : Value} {l : List UInt8} {b : Bool} {k : Nat} {xs : List N4} (h : PB w W v l b k xs) (l' : List UInt8) : PB w (W.setCell ⟨w.heap.size, 1, none⟩ (S l')) v l' b k xs :=
  ⟨by have := h.p; simp [World.setCell, Array.getElem?_modify, this], (Below.heap_setCell _ _ _ _ (by show w.heap.size + 1 ≠ w.heap.size; omega)).trans h.r, h.nv.set h.p _ _, h.bl.setCell (p := ⟨w.heap.size, 1, none⟩) (Nat.le_refl _) _⟩
theorem PB.bad {w W : World} {v : Value} {l : List UInt8} {b : Bool} {k : Nat} {xs : List N4} (h : PB w W v l b k xs) : PB w (W.setCell ⟨w.heap.size, 2, none⟩ (.bool true)) v l true k xs :=
  ⟨by have := h.p; simp [World.setCell, Array.getElem?_modify, this], (Below.heap_setCell _ _ _ _ (by show w.heap.size + 1 ≠ w.heap.size; omega)).trans h.r, h.nv.set h.p _ _, h.bl.setCell (p := ⟨w.heap.size, 2, none⟩) (Nat.le_refl _) _⟩
abbrev st4 (W : World) (g : Nat) (a b c d : Value) : World := (((W.setCell ⟨g, 0, none⟩ a).setCell ⟨g, 1, none⟩ b).setCell ⟨g, 2, none⟩ c).setCell ⟨g, 3, none⟩ d
theorem NV.set4 {W : World} {v : Value} {xs : List N4} {g : Nat} {a b c d : Value} (h : NV W 0 v xs) (hp : W.heap[g]? = some (.cells #[a, b, c, d] 24)) (x y z u : Value) : NV (st4 W g x y z u) 0 v xs := by
  refine ⟨h.1, ?_⟩
  rcases h.2 with h2 | ⟨g', cap, cur, hv, hg, hh, r⟩
  · exact .inl h2
  · refine .inr ⟨g', cap, cur, hv, hg, (set4_other (fun e => ?_) _ _ _ _).trans hh, r⟩
    have e : g' = g := e
    subst e
    rw [hp] at hh
    injection hh with hh
    injection hh with _ hh _
    exact absurd hh (by decide)
/-- Another value for p. -/
theorem PB.all {w W : World} {v : Value} {l : List UInt8} {b : Bool} {k : Nat} {xs : List N4} (h : PB w W v l b k xs) {v' : Value} {l' : List UInt8} {b' : Bool} {k' : Nat} {xs' : List N4} (hv : NV W 0 v' xs') :
    PB w (st4 W w.heap.size v' (S l') (.bool b') (.int .i64 (k' : Int))) v' l' b' k' xs' :=
  ⟨set4 h.p, (set4_other (by omega) _ _ _ _).trans h.r, hv.set4 h.p _ _ _ _, below_set4 h.bl (Nat.le_refl _) _ _ _ _⟩
/-- The start. -/
theorem PB.start {w : World} {v : Value} {l : List UInt8} {b : Bool} {k : Nat} {xs : List N4} (hv : NV w 0 v xs) : PB w ((w.alloc (pObj v l b k)).alloc (pObj (.slice none 0 0) [] false 0)) v l b k xs := by
  have e1 : (w.alloc (pObj v l b k)).heap.size = w.heap.size + 1 := by simp
  have hB : Below w.heap.size w ((w.alloc (pObj v l b k)).alloc (pObj (.slice none 0 0) [] false 0)) := ((Below.refl _ w).alloc (Nat.le_refl _) _).alloc (by simp) _
  refine ⟨?_, by rw [← e1]; exact heap_alloc_new (w.alloc (pObj v l b k)) _, hv.keep hB (Nat.le_refl _), hB⟩
  rw [Lib.alloc_old _ _ _ (by rw [e1]; omega)]; exact heap_alloc_new w _
/-- What a reading answers: nodes more, what is left. -/
def PS (x : RRes) (xs : List N4) (L a b : Nat) (e : Ending) (w' : World) : Prop :=
  ∃ v' ys l' b' k', e = .returned (PV v' l' b' k') ∧ NV w' 0 v' (xs ++ ys) ∧ (xs ++ ys).length + 4 * l'.length + a ≤ xs.length + 4 * L + b ∧ l'.length ≤ L ∧ (match x with | none => b' = true | some (rt, r) => b' = false ∧ l' = r ∧ RepR (xs ++ ys) rt k')
def ConPart (E : RRd) (n : Nat) : Prop := ∀ (v : Value) (xs : List N4) (l : List UInt8) (k : Nat) (w : World), NV w 0 v xs → 0 < l.length → l.length ≤ n → xs.length + 4 * l.length ≤ 450 →
  Calls Tryd.prog 40 #[PV v l false k] w fun e w' => PS (partR E l) xs l.length 3 0 e w' ∧ Below w.heap.size w w'
def ConRowR (E : RRd) (n : Nat) : Prop := ∀ (v : Value) (xs : List N4) (l : List UInt8) (k : Nat) (w : World), NV w 0 v xs → l.length ≤ n → xs.length + 4 * l.length ≤ 446 →
  Calls Tryd.prog 25 #[PV v l false k] w fun e w' => PS (E l) xs l.length 0 1 e w' ∧ Below w.heap.size w w'
def ConEitR (E : RRd) (n : Nat) : Prop := ∀ (v : Value) (xs : List N4) (l : List UInt8) (k : Nat) (w : World), NV w 0 v xs → l.length ≤ n → xs.length + 4 * l.length ≤ 446 →
  Calls Tryd.prog 12 #[PV v l false k] w fun e w' => PS (E l) xs l.length 0 1 e w' ∧ Below w.heap.size w w'
theorem part_at (E : RRd) (s : List UInt8) (h : 0 < s.length) : partR E s = if 97 ≤ bu s 0 ∧ bu s 0 ≤ 122 then some (starsR (.sgn (bu s 0)) (s.drop 1))
    else if bu s 0 = 40 then
      match E (s.drop 1) with
      | none => none
      | some (_, []) => none
      | some (n, d :: s2) => if d = 41 then some (starsR n s2) else none
    else none := by
  cases s with
  | nil => exact absurd h (by simp)
  | cons c s =>
    unfold partR
    rw [oneR_cons]
    show _ = if 97 ≤ c ∧ c ≤ 122 then some (starsR (.sgn c) s)
      else if c = 40 then
        match E s with
        | none => none
        | some (_, []) => none
        | some (n, d :: s2) => if d = 41 then some (starsR n s2) else none
      else none
    by_cases h1 : 97 ≤ c ∧ c ≤ 122
    · rw [if_pos h1, if_pos h1]
    · rw [if_neg h1, if_neg h1]
      by_cases h2 : c = 40
      · rw [if_pos h2, if_pos h2]
        cases E s with
        | none => rfl
        | some p =>
          obtain ⟨n, r⟩ := p
          cases r with
          | nil => rfl
          | cons d s2 =>
            by_cases h3 : d = 41
            · simp [h3]
            · simp [h3]
      · rw [if_neg h2, if_neg h2]
set_option maxRecDepth 100000 in
set_option maxHeartbeats 8000000 in
theorem part_walk (E : RRd) (n : Nat) (hE : ConEitR E n) : ConPart E (n + 1) := by
  intro v xs l k w hv h0 hn hb
  obtain ⟨A1, c1, rfl, _⟩ := own_shape hv
  have HST := Lib.hid (PB.start (l := l) (b := false) (k := k) hv)
  have hx := str_from l 1
  have HO := Lib.hid (part_at E l h0)
  have HE := Lib.hid (fun (v : Value) W h => hE v xs (l.drop 1) k W h (by rw [List.length_drop]; omega) (by rw [List.length_drop]; omega))
  have hdl : (l.drop 1).length = l.length - 1 := by simp
  have HNX := Lib.hid (fun W => next_any (.slice A1 xs.length c1) l false k W A1 xs.length c1 rfl (by omega))
  have p2 : (1 : Int) ≤ (l.length : Int) := by omega
  have p3 : l.length ≤ 200 := by omega
  generalize partR E l = X at *
  generalize l.drop 1 = d at *
  clear hv hE
  go_enter Tryd.func40, Tryd.ntmps40
  go_wp2_with fail
  refine (HNX.out _).mono ?_
  rintro e w1 ⟨rfl, hb1⟩
  have hpb1 := HST.out.below hb1
  have HPB1 := Lib.hid hpb1
  have HPBL := Lib.hid (hpb1.left d)
  obtain ⟨a0, a1, a2, a3, z0, z1, z2, z3⟩ := four_at hpb1.p
  obtain ⟨d0, d1, d2, d3, x0, x1, x2, x3⟩ := four_at hpb1.r
  clear hb1 hpb1 HST HNX
  generalize hc : bu l 0 = c at *
  clear hc
  by_cases hlo : 97 ≤ c ∧ c ≤ 122
  · obtain ⟨Z, HZ2, HXZ⟩ : ∃ Z, Hid (starsR (.sgn c) d = Z) ∧ Hid (X = some Z) := ⟨_, Lib.hid rfl, Lib.hid (by rw [HO.out, if_pos hlo])⟩
    have q1 : (97 : Int) ≤ (c.toNat : Int) := by have := UInt8.le_iff_toNat_le.1 hlo.1; have e : (97 : UInt8).toNat = 97 := rfl; omega
    have q2 : (c.toNat : Int) ≤ 122 := by have := UInt8.le_iff_toNat_le.1 hlo.2; have e : (122 : UInt8).toNat = 122 := rfl; omega
    have HW := Lib.hid (with_any (.slice A1 xs.length c1) xs d false k ⟨1, c, 0, 0⟩ _ HPBL.out.nv (by omega))
    clear HO HE hlo HPB1
    go_wp2_with fail
    refine HW.out.mono ?_
    rintro e w3 ⟨⟨v3, rfl, hn3⟩, hb3⟩
    have hpb3 := HPBL.out.below hb3
    have HPB2 := Lib.hid (hpb3.all (l' := d) (b' := false) (k' := xs.length) hn3)
    obtain ⟨A3, c3, rfl, _⟩ := own_shape hn3
    obtain ⟨n3, hn3e⟩ : ∃ n3, n3 = (xs ++ [(⟨1, c, 0, 0⟩ : N4)]).length := ⟨_, rfl⟩
    rw [← hn3e] at HPB2 ⊢
    clear hn3e
    clear hb3 hn3 HPBL HW a0 a1 a2 a3 z0 z1 z2 z3 d0 d1 d2 d3 x0 x1 x2 x3
    obtain ⟨a0, a1, a2, a3, z0, z1, z2, z3⟩ := four_at hpb3.p
    obtain ⟨d0, d1, d2, d3, x0, x1, x2, x3⟩ := four_at hpb3.r
    clear hpb3
    have HRP2 : Hid (RepR (xs ++ [⟨1, c, 0, 0⟩]) (.sgn c) xs.length) := Lib.hid (by show _ = _; rw [List.getElem?_append_right (Nat.le_refl _), Nat.sub_self]; rfl)
    have HLE2 : Hid ((xs ++ [(⟨1, c, 0, 0⟩ : N4)]).length + 4 * d.length + 3 ≤ xs.length + 4 * l.length) := Lib.hid (by rw [List.length_append]; simp only [List.length_cons, List.length_nil]; omega)
    have HLL2 : Hid (d.length ≤ l.length) := Lib.hid (by omega)
    go_wp2_with fail
    go_loopg [] d.length (fun f wr => ∃ (v' : Value) (ys : List N4) (l' : List UInt8) (k' : Nat) (rt' : Rt), f = l'.length ∧ PB w wr v' l' false k' (xs ++ ys) ∧ (xs ++ ys).length + 4 * l'.length + 3 ≤ xs.length + 4 * l.length ∧ l'.length ≤ l.length ∧ RepR (xs ++ ys) rt' k' ∧ Hid (starsR rt' l' = Z))
    case atStart => exact ⟨_, [⟨1, c, 0, 0⟩], d, xs.length, (.sgn c), rfl, HPB2.out, HLE2.out, HLL2.out, HRP2.out, HZ2⟩
    case round =>
      obtain ⟨v', ys, l', k', rt', rfl, hpb, hle, hll, hrp, HZ⟩ := hrel
      clear HPB2 HLE2 HLL2 HRP2 HZ2
      obtain ⟨A8, c8, rfl, _⟩ := own_shape hpb.nv
      obtain ⟨n8, hn8⟩ : ∃ n8, n8 = (xs ++ ys).length := ⟨_, rfl⟩
      rw [← hn8] at hpb hle
      have HN8 := Lib.hid hn8
      clear hn8
      obtain ⟨a0, a1, a2, a3, z0, z1, z2, z3⟩ := four_at hpb.p
      obtain ⟨d0, d1, d2, d3, x0, x1, x2, x3⟩ := four_at hpb.r
      have HPB := Lib.hid hpb; have HRP := Lib.hid hrp
      have HNX2 := Lib.hid (next_any (.slice A8 n8 c8) l' false k' wr A8 n8 c8 rfl (by omega))
      clear hpb hrp
      go_wp2_with fail
      refine HNX2.out.mono ?_
      rintro e w5 ⟨rfl, hb5⟩
      have hpb5 := HPB.out.below hb5
      have HPB5 := Lib.hid hpb5
      clear hb5 HPB HNX2 a0 a1 a2 a3 z0 z1 z2 z3 d0 d1 d2 d3 x0 x1 x2 x3
      obtain ⟨a0, a1, a2, a3, z0, z1, z2, z3⟩ := four_at hpb5.p
      obtain ⟨d0, d1, d2, d3, x0, x1, x2, x3⟩ := four_at hpb5.r
      clear hpb5
      by_cases h42 : bu l' 0 = 42
      · have hl0 : 0 < l'.length := by
          rcases Nat.eq_zero_or_pos l'.length with h | h
          · obtain rfl := List.length_eq_zero_iff.1 h; exact absurd h42 (by decide)
          · exact h
        have q1 : ((bu l' 0).toNat : Int) = 42 := by rw [h42]; rfl
        have q2 : (bu l' 0).toNat = 42 := by omega
        have q3 : (((bu l' 0).toNat : Int) == 42) = true := by rw [q1]; rfl
        have hx := str_from l' 1
        have p2 : (1 : Int) ≤ (l'.length : Int) := by omega
        have hdl2 : (l'.drop 1).length = l'.length - 1 := by simp
        have HZ3 : Hid (starsR (.str rt') (l'.drop 1) = Z) := Lib.hid (by rw [← HZ.out, starsR_at rt' l' hl0, if_pos h42])
        generalize l'.drop 1 = dd at *
        have hpb6 := HPB5.out.left dd
        have HPB6 := Lib.hid hpb6
        have HW := Lib.hid (with_any (.slice A8 n8 c8) (xs ++ ys) dd false k' ⟨4, 0, k', 0⟩ _ hpb6.nv (by have := HN8.out; omega))
        rw [← HN8.out] at HW
        have HRP2 : Hid (RepR ((xs ++ ys) ++ [⟨4, 0, k', 0⟩]) (.str rt') n8) := Lib.hid ⟨k', by rw [HN8.out, List.getElem?_append_right (Nat.le_refl _), Nat.sub_self]; rfl, HRP.out.app _⟩
        clear hpb6 h42 HPB5
        go_wp2_with fail
        refine HW.out.mono ?_
        rintro e w7 ⟨⟨v7, rfl, hn7⟩, hb7⟩
        have hpb7 := HPB6.out.below hb7
        have HPB8 := Lib.hid (hpb7.all (l' := dd) (b' := false) (k' := n8) hn7)
        obtain ⟨A9, c9, rfl, _⟩ := own_shape hn7
        obtain ⟨n9, hn9⟩ : ∃ n9, n9 = (xs ++ ys ++ [(⟨4, 0, k', 0⟩ : N4)]).length := ⟨_, rfl⟩
        rw [← hn9] at HPB8 ⊢
        have HN9 := Lib.hid hn9
        clear hn9
        clear hb7 hn7 HPB6 HW HZ HRP a0 a1 a2 a3 z0 z1 z2 z3 d0 d1 d2 d3 x0 x1 x2 x3
        obtain ⟨a0, a1, a2, a3, z0, z1, z2, z3⟩ := four_at hpb7.p
        obtain ⟨d0, d1, d2, d3, x0, x1, x2, x3⟩ := four_at hpb7.r
        clear hpb7
        go_wp2_with fail
        go_roundg dd.length
        case measure => omega
        case rel => exact ⟨_, ys ++ [⟨4, 0, k', 0⟩], dd, n8, .str rt', rfl, by rw [← List.append_assoc]; exact HPB8.out, by have := HN8.out; rw [← List.append_assoc, List.length_append]; simp only [List.length_cons, List.length_nil]; omega, by omega, by rw [← List.append_assoc]; exact HRP2.out, HZ3⟩
      · have q1 : ¬ ((bu l' 0).toNat : Int) = 42 := fun e => h42 (UInt8.toNat_inj.1 (by show (bu l' 0).toNat = 42; omega))
        have q2 : ¬ (bu l' 0).toNat = 42 := by omega
        have q3 : (((bu l' 0).toNat : Int) == 42) = false := by simpa using q1
        have HSN : Hid (starsR rt' l' = (rt', l')) := Lib.hid (starsR_no h42)
        clear h42
        go_wp2_with fail
        refine bodyPost_ret (res_cell1 rfl _ _ (w.heap.size + 1) 24 _ (0, 0) _ rfl (set4 HPB5.out.r) Tryd.underlying24 rfl (by kernel_rfl)) rfl ?_
        refine ⟨⟨_, ys, l', false, k', rfl, HPB5.out.nv.set4 HPB5.out.r _ _ _ _, by have := HN8.out; omega, hll, ?_⟩, below_set4 HPB5.out.bl (Nat.le_succ _) _ _ _ _⟩
        rw [HXZ.out, ← HZ.out, HSN.out]
        exact ⟨rfl, rfl, HRP.out⟩
  by_cases h40 : c = 40
  rotate_left
  · have HXN : Hid (X = none) := Lib.hid (by rw [HO.out, if_neg hlo, if_neg h40])
    have q3 : ¬ (c.toNat : Int) = 40 := fun e => h40 (UInt8.toNat_inj.1 (by show c.toNat = 40; omega))
    have q4 : ((c.toNat : Int) == 40) = false := by simpa using q3
    have q5 : ¬ c.toNat = 40 := by omega
    have q6 : (c.toNat == 40) = false := by simpa using q5
    have hlo' : (97 ≤ c.toNat → ¬ c.toNat ≤ 122) := fun h1 h2 => hlo ⟨UInt8.le_iff_toNat_le.2 h1, UInt8.le_iff_toNat_le.2 h2⟩
    have HPBB := Lib.hid (HPBL.out.bad)
    clear HO HE hlo h40 HPB1 HPBL
    by_cases ha : 97 ≤ c.toNat
    all_goals
      first
        | (have q1 : (97 : Int) ≤ (c.toNat : Int) := by omega
           have q2 : ¬ (c.toNat : Int) ≤ 122 := by have := hlo' ha; omega)
        | (have q1 : ¬ (97 : Int) ≤ (c.toNat : Int) := by omega)
      clear hlo' ha
      go_wp2_with fail
      refine wp_loop_rounds 1 ?_
      rw [rounds_succ]
      go_wp2_with fail
      refine bodyPost_ret (res_cell1 rfl _ _ (w.heap.size + 1) 24 _ (0, 0) _ rfl (set4 HPBB.out.r) Tryd.underlying24 rfl (by kernel_rfl)) rfl ?_
      refine ⟨⟨_, [], d, true, k, rfl, by rw [List.append_nil]; exact HPBB.out.nv.set4 HPBB.out.r _ _ _ _, by simp; omega, by omega, ?_⟩, below_set4 HPBB.out.bl (Nat.le_succ _) _ _ _ _⟩
      rw [HXN.out]
      try exact rfl
  have q1 : ¬ (97 : Int) ≤ (c.toNat : Int) := by rw [h40]; decide
  have q2 : (c.toNat : Int) = 40 := by rw [h40]; rfl
  have q3 : c.toNat = 40 := by omega
  have HO2 := Lib.hid (HO.out)
  rw [if_neg hlo, if_pos h40] at HO2
  have HCE := Lib.hid (HE.out (.slice A1 xs.length c1) _ HPBL.out.nv)
  clear HO HE hlo h40 HPB1
  go_wp2_with fail
  refine HCE.out.mono ?_
  rintro e w3 ⟨⟨v3, ys3, l3, b3, k3, rfl, hn3, hle3, hll3, hm3⟩, hb3⟩
  have hpb3 := HPBL.out.below hb3
  have hpb4 := hpb3.all (l' := l3) (b' := b3) (k' := k3) hn3
  have HPB4 := Lib.hid hpb4
  obtain ⟨A3, c3, rfl, _⟩ := own_shape hn3
  obtain ⟨n3, hn3e⟩ : ∃ n3, n3 = (xs ++ ys3).length := ⟨_, rfl⟩
  rw [← hn3e] at HPB4 hle3 ⊢
  have HN3 := Lib.hid hn3e
  clear hn3e
  have HNX3 := Lib.hid (fun W => next_any (.slice A3 n3 c3) l3 b3 k3 W A3 n3 c3 rfl (by omega))
  clear hb3 hn3 HPBL HCE hpb4 a0 a1 a2 a3 z0 z1 z2 z3 d0 d1 d2 d3 x0 x1 x2 x3
  obtain ⟨a0, a1, a2, a3, z0, z1, z2, z3⟩ := four_at hpb3.p
  obtain ⟨d0, d1, d2, d3, x0, x1, x2, x3⟩ := four_at hpb3.r
  clear hpb3
  go_wp2_with fail
  refine (HNX3.out _).mono ?_
  rintro e w5 ⟨rfl, hb5⟩
  have hpb5 := HPB4.out.below hb5
  have HPB5 := Lib.hid hpb5
  clear hb5 HPB4 HNX3 a0 a1 a2 a3 z0 z1 z2 z3 d0 d1 d2 d3 x0 x1 x2 x3
  obtain ⟨a0, a1, a2, a3, z0, z1, z2, z3⟩ := four_at hpb5.p
  obtain ⟨d0, d1, d2, d3, x0, x1, x2, x3⟩ := four_at hpb5.r
  clear hpb5
  by_cases h41 : bu l3 0 = 41
  rotate_left
  · have HXN : Hid (X = none) := Lib.hid (by
      rw [HO2.out]
      cases hq : E d with
      | none => rfl
      | some p =>
        obtain ⟨rt, r⟩ := p
        rw [hq] at hm3
        obtain ⟨_, rfl, _⟩ := hm3
        cases l3 with
        | nil => rfl
        | cons a r => exact if_neg h41)
    have r1 : ¬ ((bu l3 0).toNat : Int) = 41 := fun e => h41 (UInt8.toNat_inj.1 (by show (bu l3 0).toNat = 41; omega))
    have r2 : (((bu l3 0).toNat : Int) != 41) = true := by simpa using r1
    have r3 : ¬ (bu l3 0).toNat = 41 := by omega
    have HPBB := Lib.hid (HPB5.out.bad)
    clear HO2 h41 hm3
    go_wp2_with fail
    refine bodyPost_ret (res_cell1 rfl _ _ (w.heap.size + 1) 24 _ (0, 0) _ rfl (set4 HPBB.out.r) Tryd.underlying24 rfl (by kernel_rfl)) rfl ?_
    refine ⟨⟨_, ys3, l3, true, k3, rfl, HPBB.out.nv.set4 HPBB.out.r _ _ _ _, by have := HN3.out; omega, by omega, ?_⟩, below_set4 HPBB.out.bl (Nat.le_succ _) _ _ _ _⟩
    rw [HXN.out]
    try exact rfl
  have hl30 : 0 < l3.length := by
    rcases Nat.eq_zero_or_pos l3.length with h | h
    · obtain rfl := List.length_eq_zero_iff.1 h; exact absurd h41 (by decide)
    · exact h
  have r1 : ((bu l3 0).toNat : Int) = 41 := by rw [h41]; rfl
  have r2 : (((bu l3 0).toNat : Int) != 41) = false := by rw [r1]; rfl
  have r3 : (bu l3 0).toNat = 41 := by omega
  have hx3 := str_from l3 1
  have p5 : (1 : Int) ≤ (l3.length : Int) := by omega
  have hdl3 : (l3.drop 1).length = l3.length - 1 := by simp
  have hl3c : l3 = bu l3 0 :: l3.drop 1 := by
    cases l3 with
    | nil => exact absurd hl30 (by simp)
    | cons => rfl
  rw [h41] at hl3c
  have HL3 := Lib.hid hl3c
  clear hl3c h41
  generalize l3.drop 1 = t3 at *
  have HPB6 := Lib.hid (HPB5.out.left t3)
  clear HPB5
  cases hq : E d with
  | none =>
    rw [hq] at hm3
    have hm3 : b3 = true := hm3
    subst hm3
    have HXN : Hid (X = none) := Lib.hid (by rw [HO2.out, hq])
    clear HO2 hq
    go_wp2_with fail
    refine wp_loop_rounds 1 ?_
    rw [rounds_succ]
    go_wp2_with fail
    refine bodyPost_ret (res_cell1 rfl _ _ (w.heap.size + 1) 24 _ (0, 0) _ rfl (set4 HPB6.out.r) Tryd.underlying24 rfl (by kernel_rfl)) rfl ?_
    refine ⟨⟨_, ys3, t3, true, k3, rfl, HPB6.out.nv.set4 HPB6.out.r _ _ _ _, by have := HN3.out; omega, by omega, ?_⟩, below_set4 HPB6.out.bl (Nat.le_succ _) _ _ _ _⟩
    rw [HXN.out]
    try exact rfl
  | some p =>
    obtain ⟨rt, r⟩ := p
    rw [hq] at hm3
    obtain ⟨hb3, hlr, hrp3⟩ := hm3
    subst hb3 hlr
    obtain ⟨Z, HZ2, HXZ⟩ : ∃ Z, Hid (starsR rt t3 = Z) ∧ Hid (X = some Z) := ⟨_, Lib.hid rfl, Lib.hid (by rw [HO2.out, hq, HL3.out]; simp)⟩
    have HRP2 := Lib.hid hrp3
    have HLE2 : Hid ((xs ++ ys3).length + 4 * t3.length + 3 ≤ xs.length + 4 * l.length) := Lib.hid (by have := HN3.out; omega)
    have HLL2 : Hid (t3.length ≤ l.length) := Lib.hid (by omega)
    have HPB2 := HPB6
    clear HO2 hq hrp3 HL3 HPB6 hle3 hll3
    go_wp2_with fail
    go_loopg [] t3.length (fun f wr => ∃ (v' : Value) (ys : List N4) (l' : List UInt8) (k' : Nat) (rt' : Rt), f = l'.length ∧ PB w wr v' l' false k' (xs ++ ys) ∧ (xs ++ ys).length + 4 * l'.length + 3 ≤ xs.length + 4 * l.length ∧ l'.length ≤ l.length ∧ RepR (xs ++ ys) rt' k' ∧ Hid (starsR rt' l' = Z))
    case atStart => exact ⟨_, ys3, t3, k3, rt, rfl, HPB2.out, HLE2.out, HLL2.out, HRP2.out, HZ2⟩
    case round =>
      obtain ⟨v', ys, l', k', rt', rfl, hpb, hle, hll, hrp, HZ⟩ := hrel
      clear HPB2 HLE2 HLL2 HRP2 HZ2
      obtain ⟨A8, c8, rfl, _⟩ := own_shape hpb.nv
      obtain ⟨n8, hn8⟩ : ∃ n8, n8 = (xs ++ ys).length := ⟨_, rfl⟩
      rw [← hn8] at hpb hle
      have HN8 := Lib.hid hn8
      clear hn8
      obtain ⟨a0, a1, a2, a3, z0, z1, z2, z3⟩ := four_at hpb.p
      obtain ⟨d0, d1, d2, d3, x0, x1, x2, x3⟩ := four_at hpb.r
      have HPB := Lib.hid hpb; have HRP := Lib.hid hrp
      have HNX2 := Lib.hid (next_any (.slice A8 n8 c8) l' false k' wr A8 n8 c8 rfl (by omega))
      clear hpb hrp
      go_wp2_with fail
      refine HNX2.out.mono ?_
      rintro e w5 ⟨rfl, hb5⟩
      have hpb5 := HPB.out.below hb5
      have HPB5 := Lib.hid hpb5
      clear hb5 HPB HNX2 a0 a1 a2 a3 z0 z1 z2 z3 d0 d1 d2 d3 x0 x1 x2 x3
      obtain ⟨a0, a1, a2, a3, z0, z1, z2, z3⟩ := four_at hpb5.p
      obtain ⟨d0, d1, d2, d3, x0, x1, x2, x3⟩ := four_at hpb5.r
      clear hpb5
      by_cases h42 : bu l' 0 = 42
      · have hl0 : 0 < l'.length := by
          rcases Nat.eq_zero_or_pos l'.length with h | h
          · obtain rfl := List.length_eq_zero_iff.1 h; exact absurd h42 (by decide)
          · exact h
        have q1 : ((bu l' 0).toNat : Int) = 42 := by rw [h42]; rfl
        have q2 : (bu l' 0).toNat = 42 := by omega
        have q3 : (((bu l' 0).toNat : Int) == 42) = true := by rw [q1]; rfl
        have hx := str_from l' 1
        have p2 : (1 : Int) ≤ (l'.length : Int) := by omega
        have hdl2 : (l'.drop 1).length = l'.length - 1 := by simp
        have HZ3 : Hid (starsR (.str rt') (l'.drop 1) = Z) := Lib.hid (by rw [← HZ.out, starsR_at rt' l' hl0, if_pos h42])
        generalize l'.drop 1 = dd at *
        have hpb6 := HPB5.out.left dd
        have HPB6 := Lib.hid hpb6
        have HW := Lib.hid (with_any (.slice A8 n8 c8) (xs ++ ys) dd false k' ⟨4, 0, k', 0⟩ _ hpb6.nv (by have := HN8.out; omega))
        rw [← HN8.out] at HW
        have HRP2 : Hid (RepR ((xs ++ ys) ++ [⟨4, 0, k', 0⟩]) (.str rt') n8) := Lib.hid ⟨k', by rw [HN8.out, List.getElem?_append_right (Nat.le_refl _), Nat.sub_self]; rfl, HRP.out.app _⟩
        clear hpb6 h42 HPB5
        go_wp2_with fail
        refine HW.out.mono ?_
        rintro e w7 ⟨⟨v7, rfl, hn7⟩, hb7⟩
        have hpb7 := HPB6.out.below hb7
        have HPB8 := Lib.hid (hpb7.all (l' := dd) (b' := false) (k' := n8) hn7)
        obtain ⟨A9, c9, rfl, _⟩ := own_shape hn7
        obtain ⟨n9, hn9⟩ : ∃ n9, n9 = (xs ++ ys ++ [(⟨4, 0, k', 0⟩ : N4)]).length := ⟨_, rfl⟩
        rw [← hn9] at HPB8 ⊢
        have HN9 := Lib.hid hn9
        clear hn9
        clear hb7 hn7 HPB6 HW HZ HRP a0 a1 a2 a3 z0 z1 z2 z3 d0 d1 d2 d3 x0 x1 x2 x3
        obtain ⟨a0, a1, a2, a3, z0, z1, z2, z3⟩ := four_at hpb7.p
        obtain ⟨d0, d1, d2, d3, x0, x1, x2, x3⟩ := four_at hpb7.r
        clear hpb7
        go_wp2_with fail
        go_roundg dd.length
        case measure => omega
        case rel => exact ⟨_, ys ++ [⟨4, 0, k', 0⟩], dd, n8, .str rt', rfl, by rw [← List.append_assoc]; exact HPB8.out, by have := HN8.out; rw [← List.append_assoc, List.length_append]; simp only [List.length_cons, List.length_nil]; omega, by omega, by rw [← List.append_assoc]; exact HRP2.out, HZ3⟩
      · have q1 : ¬ ((bu l' 0).toNat : Int) = 42 := fun e => h42 (UInt8.toNat_inj.1 (by show (bu l' 0).toNat = 42; omega))
        have q2 : ¬ (bu l' 0).toNat = 42 := by omega
        have q3 : (((bu l' 0).toNat : Int) == 42) = false := by simpa using q1
        have HSN : Hid (starsR rt' l' = (rt', l')) := Lib.hid (starsR_no h42)
        clear h42
        go_wp2_with fail
        refine bodyPost_ret (res_cell1 rfl _ _ (w.heap.size + 1) 24 _ (0, 0) _ rfl (set4 HPB5.out.r) Tryd.underlying24 rfl (by kernel_rfl)) rfl ?_
        refine ⟨⟨_, ys, l', false, k', rfl, HPB5.out.nv.set4 HPB5.out.r _ _ _ _, by have := HN8.out; omega, hll, ?_⟩, below_set4 HPB5.out.bl (Nat.le_succ _) _ _ _ _⟩
        rw [HXZ.out, ← HZ.out, HSN.out]
        exact ⟨rfl, rfl, HRP.out⟩
end Go.Proofs.YtchhbnnpannnhaaDoor
