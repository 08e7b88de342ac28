/- The document's reading of a pattern: either, Read: their walks. No condition. -/
import Derived.Test.YtchhbnnpannnhaaDoorRegX
namespace Go.Proofs.YtchhbnnpannnhaaDoor
open Go.RowKit IntWalk
attribute [local go_sem] byte_at str_app

theorem eitRL_stop (R : RRd) (f : Nat) (n : Rt) (s : List UInt8) (h : bu s 0 ≠ 124) : eitRL R (f + 1) n s = some (n, s) := by
  cases s with
  | nil => rfl
  | cons c s => exact if_neg h
set_option maxRecDepth 100000 in
set_option maxHeartbeats 8000000 in
theorem eitR_walk (E : RRd) (n : Nat) (hR : ConRowR (rowR E) n) (hS : ∀ s t r, rowR E s = some (t, r) → r.length ≤ s.length) : ConEitR (eitR E) n := by
  intro v xs l k w hv hn hb
  obtain ⟨A1, c1, rfl, _⟩ := own_shape hv
  have HST := Lib.hid (PB.start (l := l) (b := false) (k := k) hv)
  have HX : Hid (eitR E l = match rowR E l with
    | none => none
    | some (n, s2) => eitRL (rowR E) (s2.length + 1) n s2) := Lib.hid rfl
  have HRW := Lib.hid hR; have HS := Lib.hid hS
  generalize eitR E l = X at *
  generalize rowR E = R at *
  clear hv hR hS
  go_enter Tryd.func12, Tryd.ntmps12
  have hpb0 := HST.out
  obtain ⟨a0, a1, a2, a3, z0, z1, z2, z3⟩ := four_at hpb0.p
  obtain ⟨d0, d1, d2, d3, x0, x1, x2, x3⟩ := four_at hpb0.r
  have HW0 := Lib.hid (HRW.out (.slice A1 xs.length c1) xs l k _ hpb0.nv hn hb)
  go_wp2_with fail
  refine HW0.out.mono ?_
  rintro e w3 ⟨⟨v3, ys3, l3, b3, k3, rfl, hn3, hle3, hll3, hm3⟩, hb3⟩
  have hpb3 := hpb0.below hb3
  have HPB2 := Lib.hid (hpb3.all (l' := l3) (b' := b3) (k' := k3) hn3)
  obtain ⟨A3, c3, rfl, _⟩ := own_shape hn3
  obtain ⟨n3, hn3e⟩ : ∃ n3, n3 = (xs ++ ys3).length := ⟨_, rfl⟩
  rw [← hn3e] at HPB2 hle3 ⊢
  have HN3 := Lib.hid hn3e
  have HRES : Hid ((b3 = true ∧ X = none) ∨ (∃ rt, b3 = false ∧ RepR (xs ++ ys3) rt k3 ∧ X = eitRL R (l3.length + 1) rt l3)) := Lib.hid (by
    cases hq : R l with
    | none =>
      rw [hq] at hm3
      exact .inl ⟨hm3, by rw [HX.out, hq]⟩
    | some p =>
      obtain ⟨rt, r⟩ := p
      rw [hq] at hm3
      obtain ⟨h1, h2, h3⟩ := hm3
      subst h2
      exact .inr ⟨rt, h1, h3, by rw [HX.out, hq]⟩)
  clear hb3 hn3 hn3e hpb0 HST HW0 hm3 HX a0 a1 a2 a3 z0 z1 z2 z3 d0 d1 d2 d3 x0 x1 x2 x3
  obtain ⟨a0, a1, a2, a3, z0, z1, z2, z3⟩ := four_at hpb3.p
  obtain ⟨d0, d1, d2, d3, x0, x1, x2, x3⟩ := four_at hpb3.r
  clear hpb3
  have HST2 : Hid (∃ f, ((b3 = false ∧ f = l3.length + 1 ∧ ∃ (rt : Rt) (F : Nat), l3.length < F ∧ RepR (xs ++ ys3) rt k3 ∧ Hid (X = eitRL R F rt l3)) ∨ (b3 = true ∧ f = 0 ∧ Hid (X = none)))) := Lib.hid (by
    rcases HRES.out with ⟨h, hx⟩ | ⟨rt, h, hr, hx⟩
    · exact ⟨0, .inr ⟨h, rfl, Lib.hid hx⟩⟩
    · exact ⟨l3.length + 1, .inl ⟨h, rfl, rt, l3.length + 1, Nat.lt_succ_self _, hr, Lib.hid hx⟩⟩)
  clear HRES
  obtain ⟨f0, hf0⟩ := HST2.out
  have HF0 := Lib.hid hf0
  clear HST2 hf0
  go_wp2_with fail
  go_loopg [3] f0 (fun f lv wr => ∃ (v' : Value) (ys : List N4) (l' : List UInt8) (b' : Bool) (k' : Nat), PB w wr v' l' b' k' (xs ++ ys) ∧ (xs ++ ys).length + 4 * l'.length ≤ xs.length + 4 * l.length + 1 ∧ l'.length ≤ l.length ∧ ((b' = false ∧ f = l'.length + 1 ∧ ∃ (rt : Rt) (F : Nat), l'.length < F ∧ RepR (xs ++ ys) rt k' ∧ Hid (X = eitRL R F rt l')) ∨ (b' = true ∧ f = 0 ∧ Hid (X = none))))
  case atStart => exact ⟨_, ys3, l3, b3, k3, HPB2.out, by have := HN3.out; omega, hll3, HF0.out⟩
  case round =>
    obtain ⟨v', ys, l', b', k', hpb, hle, hll, hcase⟩ := hrel
    clear HPB2 HF0
    obtain ⟨A8, c8, rfl, _⟩ := own_shape hpb.nv
    obtain ⟨n8, hn8⟩ : ∃ n8, n8 = (xs ++ ys).length := ⟨_, rfl⟩
    rw [← hn8] at hpb hle
    have HN8 := Lib.hid hn8
    clear hn8
    obtain ⟨a0, a1, a2, a3, z0, z1, z2, z3⟩ := four_at hpb.p
    obtain ⟨d0, d1, d2, d3, x0, x1, x2, x3⟩ := four_at hpb.r
    have HPB := Lib.hid hpb
    clear hpb
    rcases hcase with ⟨rfl, rfl, rt, F, hF, hrp, HX2⟩ | ⟨rfl, rfl, HX2⟩
    rotate_left
    · go_wp2_with fail
      refine bodyPost_ret (res_cell1 rfl _ _ (w.heap.size + 1) 24 _ (0, 0) _ rfl (set4 HPB.out.r) Tryd.underlying24 rfl (by kernel_rfl)) rfl ?_
      refine ⟨⟨_, ys, l', true, k', rfl, HPB.out.nv.set4 HPB.out.r _ _ _ _, by have := HN8.out; omega, hll, ?_⟩, below_set4 HPB.out.bl (Nat.le_succ _) _ _ _ _⟩
      rw [HX2.out]
      try exact rfl
    obtain ⟨F, rfl⟩ : ∃ F', F = F' + 1 := ⟨F - 1, by omega⟩
    have HRP := Lib.hid hrp
    clear hrp
    have HNX := Lib.hid (fun W => next_any (.slice A8 n8 c8) l' false k' W A8 n8 c8 rfl (by omega))
    go_wp2_with fail
    refine (HNX.out _).mono ?_
    rintro e w5 ⟨rfl, hb5⟩
    have hpb5 := HPB.out.below hb5
    have HPB5 := Lib.hid hpb5
    clear hb5 HPB HNX a0 a1 a2 a3 z0 z1 z2 z3 d0 d1 d2 d3 x0 x1 x2 x3
    obtain ⟨a0, a1, a2, a3, z0, z1, z2, z3⟩ := four_at hpb5.p
    obtain ⟨d0, d1, d2, d3, x0, x1, x2, x3⟩ := four_at hpb5.r
    clear hpb5
    by_cases h124 : bu l' 0 = 124
    rotate_left
    · have HX3 : Hid (X = some (rt, l')) := Lib.hid (by rw [HX2.out, eitRL_stop _ _ _ _ h124])
      have q1 : ¬ ((bu l' 0).toNat : Int) = 124 := fun e => h124 (UInt8.toNat_inj.1 (by show (bu l' 0).toNat = 124; omega))
      have q2 : (((bu l' 0).toNat : Int) == 124) = false := by simpa using q1
      have q3 : ¬ (bu l' 0).toNat = 124 := by omega
      clear HX2 h124
      go_wp2_with fail
      refine bodyPost_ret (res_cell1 rfl _ _ (w.heap.size + 1) 24 _ (0, 0) _ rfl (set4 HPB5.out.r) Tryd.underlying24 rfl (by kernel_rfl)) rfl ?_
      refine ⟨⟨_, ys, l', false, k', rfl, HPB5.out.nv.set4 HPB5.out.r _ _ _ _, by have := HN8.out; omega, hll, ?_⟩, below_set4 HPB5.out.bl (Nat.le_succ _) _ _ _ _⟩
      rw [HX3.out]
      exact ⟨rfl, rfl, HRP.out⟩
    have h0 : 0 < l'.length := by
      rcases Nat.eq_zero_or_pos l'.length with h | h
      · obtain rfl := List.length_eq_zero_iff.1 h; exact absurd h124 (by decide)
      · exact h
    have q1 : ((bu l' 0).toNat : Int) = 124 := by rw [h124]; rfl
    have q2 : (((bu l' 0).toNat : Int) == 124) = true := by rw [q1]; rfl
    have q3 : (bu l' 0).toNat = 124 := by omega
    have HX3 := Lib.hid (HX2.out.trans (eitRL_at R F rt l' h0))
    rw [if_pos h124] at HX3
    have hx := str_from l' 1
    have p2 : (1 : Int) ≤ (l'.length : Int) := by omega
    have hdl : (l'.drop 1).length = l'.length - 1 := by simp
    have HSP := Lib.hid (HS.out (l'.drop 1))
    generalize l'.drop 1 = d at *
    have HPB6 := Lib.hid (HPB5.out.left d)
    have HCR := Lib.hid (HRW.out (.slice A8 n8 c8) (xs ++ ys) d k' _ HPB6.out.nv (by omega) (by have := HN8.out; omega))
    clear HX2 h124 HPB5
    go_wp2_with fail
    refine HCR.out.mono ?_
    rintro e w7 ⟨⟨v7, ys7, l7, b7, k7, rfl, hn7, hle7, hll7, hm7⟩, hb7⟩
    have hpb7 := HPB6.out.below hb7
    have HPB8 := Lib.hid (hpb7.all (l' := l7) (b' := b7) (k' := k7) hn7)
    obtain ⟨A7, c7, rfl, _⟩ := own_shape hn7
    obtain ⟨n7, hn7e⟩ : ∃ n7, n7 = (xs ++ ys ++ ys7).length := ⟨_, rfl⟩
    rw [← hn7e] at HPB8 hle7 ⊢
    have HN7 := Lib.hid hn7e
    have HW8 := Lib.hid (with_any (.slice A7 n7 c7) (xs ++ ys ++ ys7) l7 b7 k7 ⟨2, 0, k', k7⟩ _ HPB8.out.nv (by have := HN7.out; have := HN8.out; omega))
    rw [← hn7e] at HW8
    clear hb7 hn7 hn7e HPB6 HCR q1 q2 q3 p2 hx a0 a1 a2 a3 z0 z1 z2 z3 d0 d1 d2 d3 x0 x1 x2 x3
    obtain ⟨a0, a1, a2, a3, z0, z1, z2, z3⟩ := four_at hpb7.p
    obtain ⟨d0, d1, d2, d3, x0, x1, x2, x3⟩ := four_at hpb7.r
    clear hpb7
    have HRES : Hid ((b7 = true ∧ X = none) ∨ (∃ rt7, b7 = false ∧ l7.length ≤ d.length ∧ RepR (xs ++ ys ++ ys7) rt7 k7 ∧ X = eitRL R F (.alt rt rt7) l7)) := Lib.hid (by
      cases hq : R d with
      | none =>
        rw [hq] at hm7
        exact .inl ⟨hm7, by rw [HX3.out, hq]⟩
      | some p =>
        obtain ⟨rt7, r⟩ := p
        rw [hq] at hm7
        obtain ⟨h1, h2, h3⟩ := hm7
        subst h2
        exact .inr ⟨rt7, h1, HSP.out _ _ hq, h3, by rw [HX3.out, hq]⟩)
    clear hm7 HX3 HSP
    go_wp2_with fail
    refine HW8.out.mono ?_
    rintro e w9 ⟨⟨v9, rfl, hn9⟩, hb9⟩
    have hpb9 := HPB8.out.below hb9
    have HPB9 := Lib.hid (hpb9.all (l' := l7) (b' := b7) (k' := n7) hn9)
    obtain ⟨A9, c9, rfl, _⟩ := own_shape hn9
    obtain ⟨n9, hn9e⟩ : ∃ n9, n9 = (xs ++ ys ++ ys7 ++ [(⟨2, 0, k', k7⟩ : N4)]).length := ⟨_, rfl⟩
    rw [← hn9e] at HPB9 ⊢
    have HN9 := Lib.hid hn9e
    clear hb9 hn9 hn9e HPB8 HW8 a0 a1 a2 a3 z0 z1 z2 z3 d0 d1 d2 d3 x0 x1 x2 x3
    obtain ⟨a0, a1, a2, a3, z0, z1, z2, z3⟩ := four_at hpb9.p
    obtain ⟨d0, d1, d2, d3, x0, x1, x2, x3⟩ := four_at hpb9.r
    clear hpb9
    go_wp2_with fail
    have hlen9 : n9 = n7 + 1 := by have h9 := HN9.out; have h7 := HN7.out; rw [List.length_append] at h9; simp only [List.length_cons, List.length_nil] at h9; omega
    rcases HRES.out with ⟨rfl, HX9⟩ | ⟨rt7, rfl, hlt, hrp7, HX9⟩
    · have HXN := Lib.hid HX9
      clear HX9 HRES
      go_roundg 0
      case measure => omega
      case rel => exact ⟨_, ys ++ ys7 ++ [⟨2, 0, k', k7⟩], l7, true, n7, by rw [← List.append_assoc, ← List.append_assoc]; exact HPB9.out, by have := HN7.out; have := HN8.out; have := HN9.out; rw [← List.append_assoc, ← List.append_assoc]; omega, by omega, .inr ⟨rfl, rfl, HXN⟩⟩
    · have HXN := Lib.hid HX9
      have HR9 : Hid (RepR (xs ++ ys ++ ys7 ++ [⟨2, 0, k', k7⟩]) (.alt rt rt7) n7) := Lib.hid ⟨k', k7, by rw [HN7.out, List.getElem?_append_right (Nat.le_refl _), Nat.sub_self]; rfl, (HRP.out.app ys7).app _, hrp7.app _⟩
      clear HX9 HRES hrp7
      go_roundg (l7.length + 1)
      case measure => omega
      case rel => exact ⟨_, ys ++ ys7 ++ [⟨2, 0, k', k7⟩], l7, false, n7, by rw [← List.append_assoc, ← List.append_assoc]; exact HPB9.out, by have := HN7.out; have := HN8.out; have := HN9.out; rw [← List.append_assoc, ← List.append_assoc]; omega, by omega, .inl ⟨rfl, rfl, .alt rt rt7, F, by omega, by rw [← List.append_assoc, ← List.append_assoc]; exact HR9.out, HXN⟩⟩
end Go.Proofs.YtchhbnnpannnhaaDoor
