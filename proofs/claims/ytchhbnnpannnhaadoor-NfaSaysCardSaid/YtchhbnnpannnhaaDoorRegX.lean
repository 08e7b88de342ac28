/- The document's reading of a pattern: row, either, Read: their walks. No condition. -/
import Derived.Test.YtchhbnnpannnhaaDoorRegU
namespace Go.Proofs.YtchhbnnpannnhaaDoor
open Go.RowKit IntWalk
attribute [local go_sem] byte_at str_app

theorem rowRL_at (O : RRd) (f : Nat) (n : Option Rt) (s : List UInt8) (h : 0 < s.length) : rowRL O (f + 1) n s = if bu s 0 = 124 ∨ bu s 0 = 41 then some (n.getD .emp, s) else
    match O s with
    | none => none
    | some (m, s2) => rowRL O f (some (addR n (starsR m s2).1)) (starsR m s2).2 := by
  cases s with
  | nil => exact absurd h (by simp)
  | cons c s => rfl
theorem eitRL_at (R : RRd) (f : Nat) (n : Rt) (s : List UInt8) (h : 0 < s.length) : eitRL R (f + 1) n s = if bu s 0 = 124 then
      match R (s.drop 1) with
      | none => none
      | some (m, s2) => eitRL R f (.alt n m) s2
    else some (n, s) := by
  cases s with
  | nil => exact absurd h (by simp)
  | cons c s => rfl
/-- A row's step, by its parts with their stars. -/
theorem rowRL_part (E : RRd) (f : Nat) (n : Option Rt) (s : List UInt8) (h : 0 < s.length) (h1 : bu s 0 ≠ 124) (h2 : bu s 0 ≠ 41) : rowRL (oneR E) (f + 1) n s = match partR E s with
    | none => none
    | some (m, s2) => rowRL (oneR E) f (some (addR n m)) s2 := by
  rw [rowRL_at _ _ _ _ h, if_neg (by intro h'; rcases h' with h' | h'; exact h1 h'; exact h2 h')]
  unfold partR
  cases oneR E s with
  | none => rfl
  | some p => rfl
theorem rowRL_stop (O : RRd) (f : Nat) (n : Option Rt) (s : List UInt8) (h : s = [] ∨ bu s 0 = 124 ∨ bu s 0 = 41) : rowRL O (f + 1) n s = some (n.getD .emp, s) := by
  cases s with
  | nil => rfl
  | cons c s =>
    rcases h with h | h | h
    · cases h
    · exact if_pos (.inl h)
    · exact if_pos (.inr h)
/-- What a row has read so far, and its tree: none yet (the node laid first is its tree), or some. -/
def RowAt (xs : List N4) (o : Option Rt) (k : Nat) (first : Bool) : Prop := RepR xs (o.getD .emp) k ∧ first = o.isNone
set_option maxRecDepth 100000 in
set_option maxHeartbeats 8000000 in
theorem rowR_walk (E : RRd) (n : Nat) (hP : ConPart E n) (hS : ∀ s t r, partR E s = some (t, r) → r.length < s.length) : ConRowR (rowR E) n := by
  intro v xs l k w hv hn hb
  obtain ⟨A1, c1, rfl, _⟩ := own_shape hv
  have HST := Lib.hid (PB.start (l := l) (b := false) (k := k) hv)
  have HX : Hid (rowR E l = rowRL (oneR E) (l.length + 1) none l) := Lib.hid rfl
  have HW := Lib.hid (fun W h => with_any (.slice A1 xs.length c1) xs l false k ⟨0, 0, 0, 0⟩ W h (by omega))
  have HP := Lib.hid hP; have HS := Lib.hid hS
  generalize rowR E l = X at *
  clear hv hP hS
  go_enter Tryd.func25, Tryd.ntmps25
  have hpb0 := HST.out
  obtain ⟨a0, a1, a2, a3, z0, z1, z2, z3⟩ := four_at hpb0.p
  obtain ⟨d0, d1, d2, d3, x0, x1, x2, x3⟩ := four_at hpb0.r
  have HW0 := Lib.hid (HW.out _ hpb0.nv)
  go_wp2_with fail
  refine HW0.out.mono ?_
  rintro e w3 ⟨⟨v3, rfl, hn3⟩, hb3⟩
  have hpb3 := hpb0.below hb3
  have HPB2 := Lib.hid (hpb3.all (l' := l) (b' := false) (k' := xs.length) hn3)
  obtain ⟨A3, c3, rfl, _⟩ := own_shape hn3
  obtain ⟨n3, hn3e⟩ : ∃ n3, n3 = (xs ++ [(⟨0, 0, 0, 0⟩ : N4)]).length := ⟨_, rfl⟩
  rw [← hn3e] at HPB2 ⊢
  have HN3 := Lib.hid hn3e
  clear hb3 hn3 hn3e hpb0 HST HW HW0 a0 a1 a2 a3 z0 z1 z2 z3 d0 d1 d2 d3 x0 x1 x2 x3
  obtain ⟨a0, a1, a2, a3, z0, z1, z2, z3⟩ := four_at hpb3.p
  obtain ⟨d0, d1, d2, d3, x0, x1, x2, x3⟩ := four_at hpb3.r
  clear hpb3
  have HR2 : Hid (RowAt (xs ++ [⟨0, 0, 0, 0⟩]) none xs.length true) := Lib.hid ⟨by show _ = _; rw [List.getElem?_append_right (Nat.le_refl _), Nat.sub_self]; rfl, rfl⟩
  go_wp2_with fail
  go_loopg [3, 4] (l.length + 1) (fun f fv lv wr => ∃ (v' : Value) (ys : List N4) (l' : List UInt8) (b' : Bool) (k' : Nat) (fi : Bool), fv = .bool fi ∧ PB w wr v' l' b' k' (xs ++ ys) ∧ (xs ++ ys).length + 4 * l'.length ≤ xs.length + 4 * l.length + 1 ∧ l'.length ≤ l.length ∧ ((b' = false ∧ f = l'.length + 1 ∧ ∃ (o : Option Rt) (F : Nat), l'.length < F ∧ RowAt (xs ++ ys) o k' fi ∧ Hid (X = rowRL (oneR E) F o l')) ∨ (b' = true ∧ f = 0 ∧ Hid (X = none))))
  case atStart => exact ⟨_, [⟨0, 0, 0, 0⟩], l, false, xs.length, true, rfl, HPB2.out, by have := HN3.out; rw [List.length_append] at *; simp only [List.length_cons, List.length_nil] at *; omega, Nat.le_refl _, .inl ⟨rfl, rfl, none, l.length + 1, Nat.lt_succ_self _, HR2.out, HX⟩⟩
  case round =>
    obtain ⟨v', ys, l', b', k', fi, rfl, hpb, hle, hll, hcase⟩ := hrel
    clear HPB2 HR2 HX
    obtain ⟨A8, c8, rfl, _⟩ := own_shape hpb.nv
    obtain ⟨n8, hn8⟩ : ∃ n8, n8 = (xs ++ ys).length := ⟨_, rfl⟩
    rw [← hn8] at hpb hle
    have HN8 := Lib.hid hn8
    clear hn8
    obtain ⟨a0, a1, a2, a3, z0, z1, z2, z3⟩ := four_at hpb.p
    obtain ⟨d0, d1, d2, d3, x0, x1, x2, x3⟩ := four_at hpb.r
    have HPB := Lib.hid hpb
    clear hpb
    rcases hcase with ⟨rfl, rfl, o, F, hF, hra, HX2⟩ | ⟨rfl, rfl, HX2⟩
    rotate_left
    · go_wp2_with fail
      refine bodyPost_ret (res_cell1 rfl _ _ (w.heap.size + 1) 24 _ (0, 0) _ rfl (set4 HPB.out.r) Tryd.underlying24 rfl (by kernel_rfl)) rfl ?_
      refine ⟨⟨_, ys, l', true, k', rfl, HPB.out.nv.set4 HPB.out.r _ _ _ _, by have := HN8.out; omega, hll, ?_⟩, below_set4 HPB.out.bl (Nat.le_succ _) _ _ _ _⟩
      rw [HX2.out]
      try exact rfl
    obtain ⟨F, rfl⟩ : ∃ F', F = F' + 1 := ⟨F - 1, by omega⟩
    have HRA := Lib.hid hra
    rcases Nat.eq_zero_or_pos l'.length with h0 | h0
    · obtain rfl := List.length_eq_zero_iff.1 h0
      have HX3 : Hid (X = some (o.getD .emp, [])) := Lib.hid (by rw [HX2.out, rowRL_stop _ _ _ _ (.inl rfl)])
      clear HX2 hra
      go_wp2_with fail
      refine bodyPost_ret (res_cell1 rfl _ _ (w.heap.size + 1) 24 _ (0, 0) _ rfl (set4 HPB.out.r) Tryd.underlying24 rfl (by kernel_rfl)) rfl ?_
      refine ⟨⟨_, ys, [], false, k', rfl, HPB.out.nv.set4 HPB.out.r _ _ _ _, by have := HN8.out; omega, by simp, ?_⟩, below_set4 HPB.out.bl (Nat.le_succ _) _ _ _ _⟩
      rw [HX3.out]
      exact ⟨rfl, rfl, HRA.out.1⟩
    have p1 : (0 : Int) < (l'.length : Int) := by omega
    have HNX := Lib.hid (fun W => next_any (.slice A8 n8 c8) l' false k' W A8 n8 c8 rfl (by omega))
    go_wp2_with fail
    refine (HNX.out _).mono ?_
    rintro e w5 ⟨rfl, hb5⟩
    have hpb5 := HPB.out.below hb5
    have HPB5 := Lib.hid hpb5
    clear hb5 HPB a0 a1 a2 a3 z0 z1 z2 z3 d0 d1 d2 d3 x0 x1 x2 x3
    obtain ⟨a0, a1, a2, a3, z0, z1, z2, z3⟩ := four_at hpb5.p
    obtain ⟨d0, d1, d2, d3, x0, x1, x2, x3⟩ := four_at hpb5.r
    clear hpb5
    by_cases h124 : bu l' 0 = 124
    · have HX3 : Hid (X = some (o.getD .emp, l')) := Lib.hid (by rw [HX2.out, rowRL_stop _ _ _ _ (.inr (.inl h124))])
      have q1 : ((bu l' 0).toNat : Int) = 124 := by rw [h124]; rfl
      have q2 : (((bu l' 0).toNat : Int) != 124) = false := by rw [q1]; rfl
      have q3 : (bu l' 0).toNat = 124 := by omega
      clear HX2 hra h124
      go_wp2_with fail
      refine bodyPost_ret (res_cell1 rfl _ _ (w.heap.size + 1) 24 _ (0, 0) _ rfl (set4 HPB5.out.r) Tryd.underlying24 rfl (by kernel_rfl)) rfl ?_
      refine ⟨⟨_, ys, l', false, k', rfl, HPB5.out.nv.set4 HPB5.out.r _ _ _ _, by have := HN8.out; omega, hll, ?_⟩, below_set4 HPB5.out.bl (Nat.le_succ _) _ _ _ _⟩
      rw [HX3.out]
      exact ⟨rfl, rfl, HRA.out.1⟩
    have q1 : ¬ ((bu l' 0).toNat : Int) = 124 := fun e => h124 (UInt8.toNat_inj.1 (by show (bu l' 0).toNat = 124; omega))
    have q2 : (((bu l' 0).toNat : Int) != 124) = true := by simpa using q1
    have q3 : ¬ (bu l' 0).toNat = 124 := by omega
    go_wp2_with fail
    refine (HNX.out _).mono ?_
    rintro e w6 ⟨rfl, hb6⟩
    have hpb6 := HPB5.out.below hb6
    have HPB6 := Lib.hid hpb6
    clear hb6 HPB5 HNX a0 a1 a2 a3 z0 z1 z2 z3 d0 d1 d2 d3 x0 x1 x2 x3
    obtain ⟨a0, a1, a2, a3, z0, z1, z2, z3⟩ := four_at hpb6.p
    obtain ⟨d0, d1, d2, d3, x0, x1, x2, x3⟩ := four_at hpb6.r
    clear hpb6
    by_cases h41 : bu l' 0 = 41
    · have HX3 : Hid (X = some (o.getD .emp, l')) := Lib.hid (by rw [HX2.out, rowRL_stop _ _ _ _ (.inr (.inr h41))])
      have q4 : ((bu l' 0).toNat : Int) = 41 := by rw [h41]; rfl
      have q5 : (((bu l' 0).toNat : Int) != 41) = false := by rw [q4]; rfl
      have q6 : (bu l' 0).toNat = 41 := by omega
      clear HX2 hra h41 h124
      go_wp2_with fail
      refine bodyPost_ret (res_cell1 rfl _ _ (w.heap.size + 1) 24 _ (0, 0) _ rfl (set4 HPB6.out.r) Tryd.underlying24 rfl (by kernel_rfl)) rfl ?_
      refine ⟨⟨_, ys, l', false, k', rfl, HPB6.out.nv.set4 HPB6.out.r _ _ _ _, by have := HN8.out; omega, hll, ?_⟩, below_set4 HPB6.out.bl (Nat.le_succ _) _ _ _ _⟩
      rw [HX3.out]
      exact ⟨rfl, rfl, HRA.out.1⟩
    have q4 : ¬ ((bu l' 0).toNat : Int) = 41 := fun e => h41 (UInt8.toNat_inj.1 (by show (bu l' 0).toNat = 41; omega))
    have q5 : (((bu l' 0).toNat : Int) != 41) = true := by simpa using q4
    have q6 : ¬ (bu l' 0).toNat = 41 := by omega
    have HX3 := Lib.hid (HX2.out.trans (rowRL_part E F o l' h0 h124 h41))
    have HCP := Lib.hid (fun W (h : NV W 0 (.slice A8 n8 c8) (xs ++ ys)) => HP.out (.slice A8 n8 c8) (xs ++ ys) l' k' W h h0 (by omega) (by have := HN8.out; omega))
    have HSP := Lib.hid (HS.out l')
    obtain ⟨hrp, hfi⟩ := hra
    have HRP := Lib.hid hrp
    have HCP6 := Lib.hid (HCP.out _ HPB6.out.nv)
    clear HX2 h124 h41 HRA hrp HCP
    obtain ⟨rfl, rfl⟩ | ⟨a, rfl, rfl⟩ : (o = none ∧ fi = true) ∨ ∃ a, o = some a ∧ fi = false := by
      cases o with
      | none => exact .inl ⟨rfl, hfi⟩
      | some a => exact .inr ⟨a, rfl, hfi⟩
    · clear hfi
      go_wp2_with fail
      refine HCP6.out.mono ?_
      rintro e w7 ⟨⟨v7, ys7, l7, b7, k7, rfl, hn7, hle7, hll7, hm7⟩, hb7⟩
      have hpb7 := HPB6.out.below hb7
      have HPB8 := Lib.hid (hpb7.all (l' := l7) (b' := b7) (k' := k7) hn7)
      obtain ⟨A7, c7, rfl, _⟩ := own_shape hn7
      obtain ⟨n7, hn7e⟩ : ∃ n7, n7 = (xs ++ ys ++ ys7).length := ⟨_, rfl⟩
      rw [← hn7e] at HPB8 hle7 ⊢
      have HN7 := Lib.hid hn7e
      have HW8 := Lib.hid (fun W (h : NV W 0 (.slice A7 n7 c7) (xs ++ ys ++ ys7)) => with_any (.slice A7 n7 c7) (xs ++ ys ++ ys7) l7 b7 k7 ⟨3, 0, k', k7⟩ W h (by have := HN7.out; have := HN8.out; omega))
      rw [← hn7e] at HW8
      clear hb7 hn7 hn7e HPB6 HCP6 q1 q2 q3 q4 q5 q6 p1 a0 a1 a2 a3 z0 z1 z2 z3 d0 d1 d2 d3 x0 x1 x2 x3
      obtain ⟨a0, a1, a2, a3, z0, z1, z2, z3⟩ := four_at hpb7.p
      obtain ⟨d0, d1, d2, d3, x0, x1, x2, x3⟩ := four_at hpb7.r
      clear hpb7
      have HRES : Hid ((partR E l' = none ∧ b7 = true ∧ X = none) ∨ (∃ rt, b7 = false ∧ l7.length < l'.length ∧ RepR (xs ++ ys ++ ys7) rt k7 ∧ X = rowRL (oneR E) F (some (addR none rt)) l7)) := Lib.hid (by
        cases hq : partR E l' with
        | none =>
          rw [hq] at hm7
          exact .inl ⟨rfl, hm7, by rw [HX3.out, hq]⟩
        | some p =>
          obtain ⟨rt, r⟩ := p
          rw [hq] at hm7
          obtain ⟨h1, h2, h3⟩ := hm7
          subst h2
          exact .inr ⟨rt, h1, HSP.out _ _ hq, h3, by rw [HX3.out, hq]⟩)
      clear hm7 HX3 HSP
      go_wp2_with fail
      rcases HRES.out with ⟨_, rfl, HX9⟩ | ⟨rt, rfl, hlt, hrp7, HX9⟩
      · have HXN := Lib.hid HX9
        clear HX9 HRES
        go_roundg 0
        case measure => omega
        case rel => exact ⟨_, ys ++ ys7, l7, true, k7, false, rfl, by rw [← List.append_assoc]; exact HPB8.out, by have := HN7.out; have := HN8.out; rw [← List.append_assoc]; omega, by omega, .inr ⟨rfl, rfl, HXN⟩⟩
      · have HXN := Lib.hid HX9
        clear HX9 HRES
        go_roundg (l7.length + 1)
        case measure => omega
        case rel => exact ⟨_, ys ++ ys7, l7, false, k7, false, rfl, by rw [← List.append_assoc]; exact HPB8.out, by have := HN7.out; have := HN8.out; rw [← List.append_assoc]; omega, by omega, .inl ⟨rfl, rfl, some rt, F, by omega, ⟨by rw [← List.append_assoc]; exact hrp7, rfl⟩, HXN⟩⟩
    · clear hfi
      go_wp2_with fail
      refine HCP6.out.mono ?_
      rintro e w7 ⟨⟨v7, ys7, l7, b7, k7, rfl, hn7, hle7, hll7, hm7⟩, hb7⟩
      have hpb7 := HPB6.out.below hb7
      have HPB8 := Lib.hid (hpb7.all (l' := l7) (b' := b7) (k' := k7) hn7)
      obtain ⟨A7, c7, rfl, _⟩ := own_shape hn7
      obtain ⟨n7, hn7e⟩ : ∃ n7, n7 = (xs ++ ys ++ ys7).length := ⟨_, rfl⟩
      rw [← hn7e] at HPB8 hle7 ⊢
      have HN7 := Lib.hid hn7e
      have HW8 := Lib.hid (fun W (h : NV W 0 (.slice A7 n7 c7) (xs ++ ys ++ ys7)) => with_any (.slice A7 n7 c7) (xs ++ ys ++ ys7) l7 b7 k7 ⟨3, 0, k', k7⟩ W h (by have := HN7.out; have := HN8.out; omega))
      rw [← hn7e] at HW8
      clear hb7 hn7 hn7e HPB6 HCP6 q1 q2 q3 q4 q5 q6 p1 a0 a1 a2 a3 z0 z1 z2 z3 d0 d1 d2 d3 x0 x1 x2 x3
      obtain ⟨a0, a1, a2, a3, z0, z1, z2, z3⟩ := four_at hpb7.p
      obtain ⟨d0, d1, d2, d3, x0, x1, x2, x3⟩ := four_at hpb7.r
      clear hpb7
      have HRES : Hid ((partR E l' = none ∧ b7 = true ∧ X = none) ∨ (∃ rt, b7 = false ∧ l7.length < l'.length ∧ RepR (xs ++ ys ++ ys7) rt k7 ∧ X = rowRL (oneR E) F (some (addR (some a) rt)) l7)) := Lib.hid (by
        cases hq : partR E l' with
        | none =>
          rw [hq] at hm7
          exact .inl ⟨rfl, hm7, by rw [HX3.out, hq]⟩
        | some p =>
          obtain ⟨rt, r⟩ := p
          rw [hq] at hm7
          obtain ⟨h1, h2, h3⟩ := hm7
          subst h2
          exact .inr ⟨rt, h1, HSP.out _ _ hq, h3, by rw [HX3.out, hq]⟩)
      clear hm7 HX3 HSP
      have HW9 := Lib.hid (HW8.out _ HPB8.out.nv)
      clear HW8
      go_wp2_with fail
      refine HW9.out.mono ?_
      rintro e w9 ⟨⟨v9, rfl, hn9⟩, hb9⟩
      have hpb9 := HPB8.out.below hb9
      have HPB9 := Lib.hid (hpb9.all (l' := l7) (b' := b7) (k' := n7) hn9)
      obtain ⟨A9, c9, rfl, _⟩ := own_shape hn9
      obtain ⟨n9, hn9e⟩ : ∃ n9, n9 = (xs ++ ys ++ ys7 ++ [(⟨3, 0, k', k7⟩ : N4)]).length := ⟨_, rfl⟩
      rw [← hn9e] at HPB9 ⊢
      have HN9 := Lib.hid hn9e
      clear hb9 hn9 hn9e HPB8 HW9 a0 a1 a2 a3 z0 z1 z2 z3 d0 d1 d2 d3 x0 x1 x2 x3
      obtain ⟨a0, a1, a2, a3, z0, z1, z2, z3⟩ := four_at hpb9.p
      obtain ⟨d0, d1, d2, d3, x0, x1, x2, x3⟩ := four_at hpb9.r
      clear hpb9
      go_wp2_with fail
      have hlen9 : n9 = n7 + 1 := by have h9 := HN9.out; have h7 := HN7.out; rw [List.length_append] at h9; simp only [List.length_cons, List.length_nil] at h9; omega
      rcases HRES.out with ⟨_, rfl, HX9⟩ | ⟨rt, rfl, hlt, hrp7, HX9⟩
      · have HXN := Lib.hid HX9
        clear HX9 HRES
        go_roundg 0
        case measure => omega
        case rel => exact ⟨_, ys ++ ys7 ++ [⟨3, 0, k', k7⟩], l7, true, n7, false, rfl, by rw [← List.append_assoc, ← List.append_assoc]; exact HPB9.out, by have := HN7.out; have := HN8.out; have := HN9.out; rw [← List.append_assoc, ← List.append_assoc]; omega, by omega, .inr ⟨rfl, rfl, HXN⟩⟩
      · have HXN := Lib.hid HX9
        have HR9 : Hid (RepR (xs ++ ys ++ ys7 ++ [⟨3, 0, k', k7⟩]) (.seq a rt) n7) := Lib.hid ⟨k', k7, by rw [HN7.out, List.getElem?_append_right (Nat.le_refl _), Nat.sub_self]; rfl, (HRP.out.app ys7).app _, hrp7.app _⟩
        clear HX9 HRES hrp7
        go_roundg (l7.length + 1)
        case measure => omega
        case rel => exact ⟨_, ys ++ ys7 ++ [⟨3, 0, k', k7⟩], l7, false, n7, false, rfl, by rw [← List.append_assoc, ← List.append_assoc]; exact HPB9.out, by have := HN7.out; have := HN8.out; have := HN9.out; rw [← List.append_assoc, ← List.append_assoc]; omega, by omega, .inl ⟨rfl, rfl, some (.seq a rt), F, by omega, ⟨by rw [← List.append_assoc, ← List.append_assoc]; exact HR9.out, rfl⟩, HXN⟩⟩
end Go.Proofs.YtchhbnnpannnhaaDoor
