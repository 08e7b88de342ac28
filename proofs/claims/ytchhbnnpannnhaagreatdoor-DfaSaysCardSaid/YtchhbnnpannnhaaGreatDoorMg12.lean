/- Texts joined, each with its own conditions. (1) The document's reading of a pattern: either, Read: their walks. No condition. (2) The document's Read, fits, Letters, Signs: their walks. No condition. (3) The document's fits: its walk. No condition. (4) The document's fits at a row: its walk. No condition. -/
import Derived.Test.YtchhbnnpannnhaaGreatDoorMg11
import Derived.Shelf.RegionOpenPlain
import Derived.Deep.RegionHeld3
namespace Go.Proofs.YtchhbnnpannnhaaGreatDoor
open Go.RowKit IntWalk
attribute [local go_sem] byte_at str_app

theorem eitRL_stop (R : RRd) (f : Nat) (n : Rt) (s : List UInt8) (h : bu s 0 ≠ 124) : eitRL R (f + 1) n s = some (n, s) := by
  cases s with
  | nil => rfl
  | cons c s => exact if_neg h
set_option maxRecDepth 100000 in
set_option maxHeartbeats 8000000 in
theorem eitR_walk (E : RRd) (n : Nat) (hR : ConRowR (rowR E) n) (hS : ∀ s t r, rowR E s = some (t, r) → r.length ≤ s.length) : ConEitR (eitR E) n := by
  intro v xs l k w hv hn hb
  obtain ⟨A1, c1, rfl, _⟩ := own_shape hv
  have HST := Lib.hid (PB.start (l := l) (b := false) (k := k) hv)
  have HX : Hid (eitR E l = match rowR E l with
    | none => none
    | some (n, s2) => eitRL (rowR E) (s2.length + 1) n s2) := Lib.hid rfl
  have HRW := Lib.hid hR; have HS := Lib.hid hS
  generalize eitR E l = X at *
  generalize rowR E = R at *
  clear hv hR hS
  go_enter Tryz.func19, Tryz.ntmps19
  have hpb0 := HST.out
  obtain ⟨a0, a1, a2, a3, z0, z1, z2, z3⟩ := four_at hpb0.p
  obtain ⟨d0, d1, d2, d3, x0, x1, x2, x3⟩ := four_at hpb0.r
  have HW0 := Lib.hid (HRW.out (.slice A1 xs.length c1) xs l k _ hpb0.nv hn hb)
  go_wp2_with fail
  refine HW0.out.mono ?_
  rintro e w3 ⟨⟨v3, ys3, l3, b3, k3, rfl, hn3, hle3, hll3, hm3⟩, hb3⟩
  have hpb3 := hpb0.below hb3
  have HPB2 := Lib.hid (hpb3.all (l' := l3) (b' := b3) (k' := k3) hn3)
  obtain ⟨A3, c3, rfl, _⟩ := own_shape hn3
  obtain ⟨n3, hn3e⟩ : ∃ n3, n3 = (xs ++ ys3).length := ⟨_, rfl⟩
  rw [← hn3e] at HPB2 hle3 ⊢
  have HN3 := Lib.hid hn3e
  have HRES : Hid ((b3 = true ∧ X = none) ∨ (∃ rt, b3 = false ∧ RepR (xs ++ ys3) rt k3 ∧ X = eitRL R (l3.length + 1) rt l3)) := Lib.hid (by
    cases hq : R l with
    | none =>
      rw [hq] at hm3
      exact .inl ⟨hm3, by rw [HX.out, hq]⟩
    | some p =>
      obtain ⟨rt, r⟩ := p
      rw [hq] at hm3
      obtain ⟨h1, h2, h3⟩ := hm3
      subst h2
      exact .inr ⟨rt, h1, h3, by rw [HX.out, hq]⟩)
  clear hb3 hn3 hn3e hpb0 HST HW0 hm3 HX a0 a1 a2 a3 z0 z1 z2 z3 d0 d1 d2 d3 x0 x1 x2 x3
  obtain ⟨a0, a1, a2, a3, z0, z1, z2, z3⟩ := four_at hpb3.p
  obtain ⟨d0, d1, d2, d3, x0, x1, x2, x3⟩ := four_at hpb3.r
  clear hpb3
  have HST2 : Hid (∃ f, ((b3 = false ∧ f = l3.length + 1 ∧ ∃ (rt : Rt) (F : Nat), l3.length < F ∧ RepR (xs ++ ys3) rt k3 ∧ Hid (X = eitRL R F rt l3)) ∨ (b3 = true ∧ f = 0 ∧ Hid (X = none)))) := Lib.hid (by
    rcases HRES.out with ⟨h, hx⟩ | ⟨rt, h, hr, hx⟩
    · exact ⟨0, .inr ⟨h, rfl, Lib.hid hx⟩⟩
    · exact ⟨l3.length + 1, .inl ⟨h, rfl, rt, l3.length + 1, Nat.lt_succ_self _, hr, Lib.hid hx⟩⟩)
  clear HRES
  obtain ⟨f0, hf0⟩ := HST2.out
  have HF0 := Lib.hid hf0
  clear HST2 hf0
  go_wp2_with fail
  go_loopg [3] f0 (fun f lv wr => ∃ (v' : Value) (ys : List N4) (l' : List UInt8) (b' : Bool) (k' : Nat), PB w wr v' l' b' k' (xs ++ ys) ∧ (xs ++ ys).length + 4 * l'.length ≤ xs.length + 4 * l.length + 1 ∧ l'.length ≤ l.length ∧ ((b' = false ∧ f = l'.length + 1 ∧ ∃ (rt : Rt) (F : Nat), l'.length < F ∧ RepR (xs ++ ys) rt k' ∧ Hid (X = eitRL R F rt l')) ∨ (b' = true ∧ f = 0 ∧ Hid (X = none))))
  case atStart => exact ⟨_, ys3, l3, b3, k3, HPB2.out, by have := HN3.out; omega, hll3, HF0.out⟩
  case round =>
    obtain ⟨v', ys, l', b', k', hpb, hle, hll, hcase⟩ := hrel
    clear HPB2 HF0
    obtain ⟨A8, c8, rfl, _⟩ := own_shape hpb.nv
    obtain ⟨n8, hn8⟩ : ∃ n8, n8 = (xs ++ ys).length := ⟨_, rfl⟩
    rw [← hn8] at hpb hle
    have HN8 := Lib.hid hn8
    clear hn8
    obtain ⟨a0, a1, a2, a3, z0, z1, z2, z3⟩ := four_at hpb.p
    obtain ⟨d0, d1, d2, d3, x0, x1, x2, x3⟩ := four_at hpb.r
    have HPB := Lib.hid hpb
    clear hpb
    rcases hcase with ⟨rfl, rfl, rt, F, hF, hrp, HX2⟩ | ⟨rfl, rfl, HX2⟩
    rotate_left
    · go_wp2_with fail
      refine bodyPost_ret (res_cell1 rfl _ _ (w.heap.size + 1) 36 _ (0, 0) _ rfl (set4 HPB.out.r) Tryz.underlying36 rfl (by kernel_rfl)) rfl ?_
      refine ⟨⟨_, ys, l', true, k', rfl, HPB.out.nv.set4 HPB.out.r _ _ _ _, by have := HN8.out; omega, hll, ?_⟩, below_set4 HPB.out.bl (Nat.le_succ _) _ _ _ _⟩
      rw [HX2.out]
      try exact rfl
    obtain ⟨F, rfl⟩ : ∃ F', F = F' + 1 := ⟨F - 1, by omega⟩
    have HRP := Lib.hid hrp
    clear hrp
    have HNX := Lib.hid (fun W => next_any (.slice A8 n8 c8) l' false k' W A8 n8 c8 rfl (by omega))
    go_wp2_with fail
    refine (HNX.out _).mono ?_
    rintro e w5 ⟨rfl, hb5⟩
    have hpb5 := HPB.out.below hb5
    have HPB5 := Lib.hid hpb5
    clear hb5 HPB HNX a0 a1 a2 a3 z0 z1 z2 z3 d0 d1 d2 d3 x0 x1 x2 x3
    obtain ⟨a0, a1, a2, a3, z0, z1, z2, z3⟩ := four_at hpb5.p
    obtain ⟨d0, d1, d2, d3, x0, x1, x2, x3⟩ := four_at hpb5.r
    clear hpb5
    by_cases h124 : bu l' 0 = 124
    rotate_left
    · have HX3 : Hid (X = some (rt, l')) := Lib.hid (by rw [HX2.out, eitRL_stop _ _ _ _ h124])
      have q1 : ¬ ((bu l' 0).toNat : Int) = 124 := fun e => h124 (UInt8.toNat_inj.1 (by show (bu l' 0).toNat = 124; omega))
      have q2 : (((bu l' 0).toNat : Int) == 124) = false := by simpa using q1
      have q3 : ¬ (bu l' 0).toNat = 124 := by omega
      clear HX2 h124
      go_wp2_with fail
      refine bodyPost_ret (res_cell1 rfl _ _ (w.heap.size + 1) 36 _ (0, 0) _ rfl (set4 HPB5.out.r) Tryz.underlying36 rfl (by kernel_rfl)) rfl ?_
      refine ⟨⟨_, ys, l', false, k', rfl, HPB5.out.nv.set4 HPB5.out.r _ _ _ _, by have := HN8.out; omega, hll, ?_⟩, below_set4 HPB5.out.bl (Nat.le_succ _) _ _ _ _⟩
      rw [HX3.out]
      exact ⟨rfl, rfl, HRP.out⟩
    have h0 : 0 < l'.length := by
      rcases Nat.eq_zero_or_pos l'.length with h | h
      · obtain rfl := List.length_eq_zero_iff.1 h; exact absurd h124 (by decide)
      · exact h
    have q1 : ((bu l' 0).toNat : Int) = 124 := by rw [h124]; rfl
    have q2 : (((bu l' 0).toNat : Int) == 124) = true := by rw [q1]; rfl
    have q3 : (bu l' 0).toNat = 124 := by omega
    have HX3 := Lib.hid (HX2.out.trans (eitRL_at R F rt l' h0))
    rw [if_pos h124] at HX3
    have hx := str_from l' 1
    have p2 : (1 : Int) ≤ (l'.length : Int) := by omega
    have hdl : (l'.drop 1).length = l'.length - 1 := by simp
    have HSP := Lib.hid (HS.out (l'.drop 1))
    generalize l'.drop 1 = d at *
    have HPB6 := Lib.hid (HPB5.out.left d)
    have HCR := Lib.hid (HRW.out (.slice A8 n8 c8) (xs ++ ys) d k' _ HPB6.out.nv (by omega) (by have := HN8.out; omega))
    clear HX2 h124 HPB5
    go_wp2_with fail
    refine HCR.out.mono ?_
    rintro e w7 ⟨⟨v7, ys7, l7, b7, k7, rfl, hn7, hle7, hll7, hm7⟩, hb7⟩
    have hpb7 := HPB6.out.below hb7
    have HPB8 := Lib.hid (hpb7.all (l' := l7) (b' := b7) (k' := k7) hn7)
    obtain ⟨A7, c7, rfl, _⟩ := own_shape hn7
    obtain ⟨n7, hn7e⟩ : ∃ n7, n7 = (xs ++ ys ++ ys7).length := ⟨_, rfl⟩
    rw [← hn7e] at HPB8 hle7 ⊢
    have HN7 := Lib.hid hn7e
    have HW8 := Lib.hid (with_any (.slice A7 n7 c7) (xs ++ ys ++ ys7) l7 b7 k7 ⟨2, 0, k', k7⟩ _ HPB8.out.nv (by have := HN7.out; have := HN8.out; omega))
    rw [← hn7e] at HW8
    clear hb7 hn7 hn7e HPB6 HCR q1 q2 q3 p2 hx a0 a1 a2 a3 z0 z1 z2 z3 d0 d1 d2 d3 x0 x1 x2 x3
    obtain ⟨a0, a1, a2, a3, z0, z1, z2, z3⟩ := four_at hpb7.p
    obtain ⟨d0, d1, d2, d3, x0, x1, x2, x3⟩ := four_at hpb7.r
    clear hpb7
    have HRES : Hid ((b7 = true ∧ X = none) ∨ (∃ rt7, b7 = false ∧ l7.length ≤ d.length ∧ RepR (xs ++ ys ++ ys7) rt7 k7 ∧ X = eitRL R F (.alt rt rt7) l7)) := Lib.hid (by
      cases hq : R d with
      | none =>
        rw [hq] at hm7
        exact .inl ⟨hm7, by rw [HX3.out, hq]⟩
      | some p =>
        obtain ⟨rt7, r⟩ := p
        rw [hq] at hm7
        obtain ⟨h1, h2, h3⟩ := hm7
        subst h2
        exact .inr ⟨rt7, h1, HSP.out _ _ hq, h3, by rw [HX3.out, hq]⟩)
    clear hm7 HX3 HSP
    go_wp2_with fail
    refine HW8.out.mono ?_
    rintro e w9 ⟨⟨v9, rfl, hn9⟩, hb9⟩
    have hpb9 := HPB8.out.below hb9
    have HPB9 := Lib.hid (hpb9.all (l' := l7) (b' := b7) (k' := n7) hn9)
    obtain ⟨A9, c9, rfl, _⟩ := own_shape hn9
    obtain ⟨n9, hn9e⟩ : ∃ n9, n9 = (xs ++ ys ++ ys7 ++ [(⟨2, 0, k', k7⟩ : N4)]).length := ⟨_, rfl⟩
    rw [← hn9e] at HPB9 ⊢
    have HN9 := Lib.hid hn9e
    clear hb9 hn9 hn9e HPB8 HW8 a0 a1 a2 a3 z0 z1 z2 z3 d0 d1 d2 d3 x0 x1 x2 x3
    obtain ⟨a0, a1, a2, a3, z0, z1, z2, z3⟩ := four_at hpb9.p
    obtain ⟨d0, d1, d2, d3, x0, x1, x2, x3⟩ := four_at hpb9.r
    clear hpb9
    go_wp2_with fail
    have hlen9 : n9 = n7 + 1 := by have h9 := HN9.out; have h7 := HN7.out; rw [List.length_append] at h9; simp only [List.length_cons, List.length_nil] at h9; omega
    rcases HRES.out with ⟨rfl, HX9⟩ | ⟨rt7, rfl, hlt, hrp7, HX9⟩
    · have HXN := Lib.hid HX9
      clear HX9 HRES
      go_roundg 0
      case measure => omega
      case rel => exact ⟨_, ys ++ ys7 ++ [⟨2, 0, k', k7⟩], l7, true, n7, by rw [← List.append_assoc, ← List.append_assoc]; exact HPB9.out, by have := HN7.out; have := HN8.out; have := HN9.out; rw [← List.append_assoc, ← List.append_assoc]; omega, by omega, .inr ⟨rfl, rfl, HXN⟩⟩
    · have HXN := Lib.hid HX9
      have HR9 : Hid (RepR (xs ++ ys ++ ys7 ++ [⟨2, 0, k', k7⟩]) (.alt rt rt7) n7) := Lib.hid ⟨k', k7, by rw [HN7.out, List.getElem?_append_right (Nat.le_refl _), Nat.sub_self]; rfl, (HRP.out.app ys7).app _, hrp7.app _⟩
      clear HX9 HRES hrp7
      go_roundg (l7.length + 1)
      case measure => omega
      case rel => exact ⟨_, ys ++ ys7 ++ [⟨2, 0, k', k7⟩], l7, false, n7, by rw [← List.append_assoc, ← List.append_assoc]; exact HPB9.out, by have := HN7.out; have := HN8.out; have := HN9.out; rw [← List.append_assoc, ← List.append_assoc]; omega, by omega, .inl ⟨rfl, rfl, .alt rt rt7, F, by omega, by rw [← List.append_assoc, ← List.append_assoc]; exact HR9.out, HXN⟩⟩
end Go.Proofs.YtchhbnnpannnhaaGreatDoor

namespace Go.Proofs.YtchhbnnpannnhaaGreatDoor
open Go.RowKit IntWalk
attribute [local go_sem] byte_at str_app

theorem starsR_len : ∀ (s : List UInt8) (m : Rt), (starsR m s).2.length ≤ s.length
  | [], m => Nat.le_refl _
  | c :: s, m => by
    unfold starsR
    split
    · have := starsR_len s (.str m); simp; omega
    · exact Nat.le_refl _
theorem partR_sh (n : Nat) : ∀ s t r, partR (parR n) s = some (t, r) → r.length < s.length := by
  intro s t r h
  unfold partR at h
  cases hq : oneR (parR n) s with
  | none => rw [hq] at h; cases h
  | some p =>
    obtain ⟨m, s2⟩ := p
    rw [hq] at h
    injection h with h
    obtain ⟨h1, h2⟩ := (lse_par n).one s 0
    have hs : s2.length < s.length := by
      cases ho : oneE (parE n) s 0 with
      | none => rw [h1 ho] at hq; cases hq
      | some z =>
        obtain ⟨t', r', k'⟩ := z
        obtain ⟨rt, e, _, _⟩ := h2 _ _ _ ho
        rw [e] at hq
        injection hq with hq
        injection hq with _ hq
        have := (sh_par n).one _ _ _ _ _ ho
        rw [← hq]; exact this
    have h3 := starsR_len s2 m
    have : r = (starsR m s2).2 := by rw [h]
    rw [this]; omega
theorem rowR_sh (n : Nat) : ∀ s t r, rowR (parR n) s = some (t, r) → r.length ≤ s.length := by
  intro s t r h
  obtain ⟨h1, h2⟩ := (lse_par n).row s 0
  cases ho : rowE (parE n) s 0 with
  | none => rw [h1 ho] at h; cases h
  | some z =>
    obtain ⟨t', r', k'⟩ := z
    obtain ⟨rt, e, _, _⟩ := h2 _ _ _ ho
    rw [e] at h
    injection h with h
    injection h with _ h
    rw [← h]; exact (sh_par n).row _ _ _ _ _ ho
theorem con_allR : ∀ n, ConEitR (parR (n + 1)) n
  | 0 => eitR_walk _ 0 (rowR_walk _ 0 (fun v xs l k w hv h0 hn _ => by omega) (partR_sh 0)) (rowR_sh 0)
  | n + 1 => eitR_walk _ (n + 1) (rowR_walk _ (n + 1) (part_walk _ n (con_allR n)) (partR_sh (n + 1))) (rowR_sh (n + 1))
theorem rdE_par (s : List UInt8) : rdR s = none ↔ par s = none := ⟨par_none, rd_none⟩
theorem res_cell_tmpZ {P : Program} {fn : Func} {p q : Tmp} {ty : TypeId} (h : fn.results = #[.cell p ty, .tmp q]) (tmps : Array Value) (w : World) (g : Nat) (t : TypeId) (cs : Array Value) (fr : Nat × Nat) (d : TypeDesc)
    (hp : tmps.getD p undef = .pointer (some ⟨g, 0, none⟩)) (hg : w.heap[g]? = some (.cells cs t fr))
    (hu : P.underlying ty = some d) (hd : (match d with | .struct _ | .array _ _ => true | _ => false) = true) (hi : (P.info? ty).map (·.size) = some cs.size) :
    (results fn tmps).run P w = .ok (.tuple #[.agg cs, tmps.getD q undef]) w := by
  have hp' : tmps[p]?.getD undef = .pointer (some ⟨g, 0, none⟩) := by simpa using hp
  simp [results, h, hp', asAddr, run_loadVar_row w g t ty cs fr d hg hu hd hi]
/-- What Read answers. -/
def ReadSays (s : List UInt8) (e : Ending) (w' : World) : Prop :=
  (∃ k, k ≠ 0 ∧ (12 < s.length → k = 4) ∧ (s.length ≤ 12 → k = 2 ∧ rdR s = none) ∧ e = .returned (.tuple #[PV (.slice none 0 0) [] false 0, .int .i64 k])) ∨
  (s.length ≤ 12 ∧ ∃ rt v xs k, rdR s = some rt ∧ e = .returned (.tuple #[PV v [] false k, .int .i64 0]) ∧ NV w' 0 v xs ∧ RepR xs rt k ∧ xs.length ≤ 60)
theorem two_old (w : World) (a b : Obj) : ((w.alloc a).alloc b).heap[w.heap.size]? = some a ∧ ((w.alloc a).alloc b).heap[w.heap.size + 1]? = some b ∧ Below w.heap.size w ((w.alloc a).alloc b) := by
  have e1 : (w.alloc a).heap.size = w.heap.size + 1 := by simp
  refine ⟨?_, by rw [← e1]; exact heap_alloc_new (w.alloc a) b, ((Below.refl _ w).alloc (Nat.le_refl _) _).alloc (by simp) _⟩
  rw [Lib.alloc_old _ _ _ (by rw [e1]; omega)]; exact heap_alloc_new w a
set_option maxRecDepth 100000 in
set_option maxHeartbeats 4000000 in
theorem readR_any (s : List UInt8) (w : World) (h9 : s.length ≤ 9223372036854775807) :
    Calls Tryz.prog 9 #[S s] w fun e w' => ReadSays s e w' ∧ Below w.heap.size w w' := by
  by_cases h12 : 12 < s.length
  · have HL := Lib.hid h12
    have p1 : (12 : Int) < (s.length : Int) := by omega
    have h1 := heap_alloc_new w (pObj (.slice none 0 0) [] false 0)
    have HB := Lib.hid ((Below.refl w.heap.size w).alloc (Nat.le_refl _) (pObj (.slice none 0 0) [] false 0))
    have H1 := Lib.hid h1
    clear h1 h12
    go_enter Tryz.func9, Tryz.ntmps9
    go_wp2_with fail
    refine bodyPost_ret (res_cell_tmpZ rfl _ _ w.heap.size 36 _ (0, 0) _ rfl H1.out Tryz.underlying36 rfl (by kernel_rfl)) rfl ?_
    exact ⟨.inl ⟨4, by decide, fun _ => rfl, fun h => absurd HL.out (by omega), rfl⟩, HB.out⟩
  have p1 : ¬ (12 : Int) < (s.length : Int) := by omega
  have h12' : s.length ≤ 12 := by omega
  have HC := Lib.hid (fun (v : Value) (k : Nat) W h => con_allR s.length v [] s k W h (Nat.le_refl _) (by simp; omega))
  have HRD : Hid (rdR s = match parR (s.length + 1) s with
    | some (t, []) => some t
    | _ => none) := Lib.hid rfl
  generalize parR (s.length + 1) s = Z at *
  obtain ⟨h1, h2, hB⟩ := two_old w (pObj (.slice none 0 0) [] false 0) (pObj (.slice none 0 0) s false 0)
  have HB := Lib.hid hB; have H1 := Lib.hid h1; have H2 := Lib.hid h2
  clear hB h1 h2 h12
  go_enter Tryz.func9, Tryz.ntmps9
  go_wp2_with fail
  refine (HC.out (.slice none 0 0) 0 _ (World.ownsRow_nil _ _ _ _)).mono ?_
  rintro e w3 ⟨⟨v3, ys3, l3, b3, k3, rfl, hn3, hle3, hll3, hm3⟩, hb3⟩
  rw [List.nil_append] at hn3 hle3 hm3
  have hp := (hb3.block _ (Array.getElem?_eq_some_iff.1 H2.out).1).trans H2.out
  have hr := (hb3.block _ (Array.getElem?_eq_some_iff.1 H1.out).1).trans H1.out
  have HB3 := Lib.hid (HB.out.trans (hb3.mono HB.out.size))
  have HR := Lib.hid hr
  have HNV := Lib.hid ((hn3.set4 hp v3 (S l3) (.bool b3) (.int .i64 (k3 : Int))))
  have HNV2 := Lib.hid (NV.set4 HNV.out ((set4_other (by omega) _ _ _ _).trans hr) v3 (S l3) (.bool b3) (.int .i64 (k3 : Int)))
  obtain ⟨A3, c3, rfl, _⟩ := own_shape hn3
  obtain ⟨n3, hn3e⟩ : ∃ n3, n3 = ys3.length := ⟨_, rfl⟩
  rw [← hn3e] at HNV HNV2 hle3 ⊢
  have HN3 := Lib.hid hn3e
  obtain ⟨a0, a1, a2, a3, z0, z1, z2, z3⟩ := four_at hp
  obtain ⟨d0, d1, d2, d3, x0, x1, x2, x3⟩ := four_at hr
  have hle4 : n3 ≤ 50 := by simp at hle3; omega
  clear hb3 hn3 hn3e hp hr HC hle3 hll3
  have HFB := Lib.hid (fun x y z u => below_set4 (g := w.heap.size + 1) HB3.out (Nat.le_succ _) x y z u)
  have HFN := Lib.hid (fun x y z u x2 y2 z2 u2 => below_set4 (g := w.heap.size) (HFB.out x y z u) (Nat.le_refl _) x2 y2 z2 u2)
  have HRR : Hid (∀ x y z u, (st4 w3 (w.heap.size + 1) x y z u).heap[w.heap.size]? = some (pObj (.slice none 0 0) [] false 0)) := Lib.hid fun x y z u => (set4_other (by omega) _ _ _ _).trans HR.out
  cases b3
  · by_cases hl : l3 = []
    · subst hl
      match Z, hm3, HRD with
      | none, hm3, _ => exact absurd (show false = true from hm3) (by decide)
      | some (rt, r), hm3, HRD =>
        obtain ⟨_, hr0, hrp⟩ := hm3
        subst hr0
        have HRP := Lib.hid hrp
        clear hrp
        go_wp2_with fail
        refine bodyPost_ret (res_cell_tmpZ rfl _ _ w.heap.size 36 _ (0, 0) _ rfl (set4 (HRR.out _ _ _ _)) Tryz.underlying36 rfl (by kernel_rfl)) rfl ?_
        exact ⟨.inr ⟨h12', rt, _, ys3, k3, HRD.out, rfl, HNV2.out, HRP.out, by have := HN3.out; omega⟩, HFN.out _ _ _ _ _ _ _ _⟩
    · have hpos := List.length_pos_iff.2 hl
      have q1 : (0 : Int) < (l3.length : Int) := by omega
      have HN : Hid (rdR s = none) := Lib.hid (by
        rw [HRD.out]
        match Z, hm3 with
        | none, hm3 => rfl
        | some (rt, r), hm3 =>
          obtain ⟨_, hr0, _⟩ := hm3
          subst hr0
          cases l3 with
          | nil => exact absurd rfl hl
          | cons a b => rfl)
      clear hm3 HRD hl
      go_wp2_with fail
      refine bodyPost_ret (res_cell_tmpZ rfl _ _ w.heap.size 36 _ (0, 0) _ rfl (set4 (HRR.out _ _ _ _)) Tryz.underlying36 rfl (by kernel_rfl)) rfl ?_
      exact ⟨.inl ⟨2, by decide, fun h => absurd h (by omega), fun _ => ⟨rfl, HN.out⟩, rfl⟩, HFN.out _ _ _ _ _ _ _ _⟩
  · have HN : Hid (rdR s = none) := Lib.hid (by
      rw [HRD.out]
      match Z, hm3 with
      | none, hm3 => rfl
      | some (rt, r), hm3 => exact absurd hm3.1 (by decide))
    clear hm3 HRD
    go_wp2_with fail
    refine bodyPost_ret (res_cell_tmpZ rfl _ _ w.heap.size 36 _ (0, 0) _ rfl (set4 (HRR.out _ _ _ _)) Tryz.underlying36 rfl (by kernel_rfl)) rfl ?_
    exact ⟨.inl ⟨2, by decide, fun h => absurd h (by omega), fun _ => ⟨rfl, HN.out⟩, rfl⟩, HFN.out _ _ _ _ _ _ _ _⟩
end Go.Proofs.YtchhbnnpannnhaaGreatDoor

namespace Go.Proofs.YtchhbnnpannnhaaGreatDoor
open Go.RowKit IntWalk
attribute [local go_sem] byte_at str_app

theorem ncells_get : ∀ (xs : List N4) (k : Nat) (x : N4), xs[k]? = some x → (ncells xs)[k * 4]? = some (.int .i64 x.k) ∧ (ncells xs)[k * 4 + 1]? = some (.int .u8 (x.c.toNat : Int)) ∧ (ncells xs)[k * 4 + 2]? = some (.int .i64 (x.l : Int)) ∧ (ncells xs)[k * 4 + 3]? = some (.int .i64 (x.r : Int))
  | [], k, x, h => by simp at h
  | y :: xs, 0, x, h => by
    have : y = x := by simpa using h
    subst this
    exact ⟨rfl, rfl, rfl, rfl⟩
  | y :: xs, k + 1, x, h => by
    have ih := ncells_get xs k x (by simpa using h)
    have e : ∀ j, (ncells (y :: xs))[(k + 1) * 4 + j]? = (ncells xs)[k * 4 + j]? := fun j => by
      rw [show (k + 1) * 4 + j = (k * 4 + j) + 4 by omega]; rfl
    exact ⟨(e 0).trans ih.1, (e 1).trans ih.2.1, (e 2).trans ih.2.2.1, (e 3).trans ih.2.2.2⟩
theorem nv_node {w : World} {v : Value} {xs : List N4} {k : Nat} {x : N4} (h : NV w 0 v xs) (hx : xs[k]? = some x) :
    ∃ g c, v = .slice (some ⟨g, 0, none⟩) xs.length c ∧ g < w.heap.size ∧ k < xs.length ∧ w.cell? ⟨g, k * 4, none⟩ = some (.int .i64 x.k) ∧ w.cell? ⟨g, k * 4 + 1, none⟩ = some (.int .u8 (x.c.toNat : Int)) ∧ w.cell? ⟨g, k * 4 + 2, none⟩ = some (.int .i64 (x.l : Int)) ∧ w.cell? ⟨g, k * 4 + 3, none⟩ = some (.int .i64 (x.r : Int)) := by
  have hk := (List.getElem?_eq_some_iff.1 hx).1
  rcases h.2 with ⟨_, h0⟩ | ⟨g, cap, cur, hv, _, hg, _⟩
  · omega
  · subst hv
    obtain ⟨n0, n1, n2, n3⟩ := ncells_get xs k x hx
    have c0 := h.cells (g := g) rfl _ _ n0
    have c1 := h.cells (g := g) rfl _ _ n1
    have c2 := h.cells (g := g) rfl _ _ n2
    have c3 := h.cells (g := g) rfl _ _ n3
    rw [Addr.add_lit, Nat.zero_add] at c0 c1 c2 c3
    exact ⟨g, cap, rfl, (Array.getElem?_eq_some_iff.1 hg).1, hk, c0, c1, c2, c3⟩
/-- What fits has in memory: the pattern, the node. -/
structure FB (w W : World) (v : Value) (l : List UInt8) (b : Bool) (tp : Nat) (x : N4) (xs : List N4) : Prop where
  p : W.heap[w.heap.size]? = some (pObj v l b tp)
  r : W.heap[w.heap.size + 1]? = some (.cells #[.int .i64 x.k, .int .u8 (x.c.toNat : Int), .int .i64 (x.l : Int), .int .i64 (x.r : Int)] 77)
  nv : NV W 0 v xs
  bl : Below w.heap.size w W
theorem FB.below {w W W' : World} {v : Value} {l : List UInt8} {b : Bool} {tp : Nat} {x : N4} {xs : List N4} (h : FB w W v l b tp x xs) (hb : Below W.heap.size W W') : FB w W' v l b tp x xs :=
  ⟨(hb.block _ (Array.getElem?_eq_some_iff.1 h.p).1).trans h.p, (hb.block _ (Array.getElem?_eq_some_iff.1 h.r).1).trans h.r, h.nv.keep hb (Nat.le_refl _), h.bl.trans (hb.mono h.bl.size)⟩
theorem FB.drew {w W : World} {v : Value} {l : List UInt8} {b : Bool} {tp : Nat} {x : N4} {xs : List N4} (h : FB w W v l b tp x xs) : FB w W.drew v l b tp x xs := h.below (Below.drew (Below.refl _ W))
theorem FB.start {w : World} {v : Value} {l : List UInt8} {b : Bool} {tp : Nat} {xs : List N4} (x : N4) (hv : NV w 0 v xs) : FB w ((w.alloc (pObj v l b tp)).alloc (.cells #[.int .i64 x.k, .int .u8 (x.c.toNat : Int), .int .i64 (x.l : Int), .int .i64 (x.r : Int)] 77)) v l b tp x xs := by
  obtain ⟨h1, h2, h3⟩ := two_old w (pObj v l b tp) (.cells #[.int .i64 x.k, .int .u8 (x.c.toNat : Int), .int .i64 (x.l : Int), .int .i64 (x.r : Int)] 77)
  exact ⟨h1, h2, hv.keep h3 (Nat.le_refl _), h3⟩
/-- Some place in a text, up to which nothing fitted. -/
def anyP (f : Nat → Bool) (i : Nat) : Bool := (List.range i).any f
theorem anyP_step (f : Nat → Bool) (i : Nat) : anyP f (i + 1) = (anyP f i || f i) := by unfold anyP; rw [List.range_succ, List.any_append]; simp
theorem anyP_of {f : Nat → Bool} {i n : Nat} (hi : i < n) (h : f i = true) : anyP f n = true := by
  unfold anyP; rw [List.any_eq_true]; exact ⟨i, by simpa using hi, h⟩
def FitsC (t : Rt) (s : List UInt8) : Prop := ∀ (xs : List N4) (v : Value) (l : List UInt8) (b : Bool) (tp k : Nat) (w : World), NV w 0 v xs → RepR xs t k → 
  Calls Tryz.prog 42 #[PV v l b tp, .int .i64 (k : Int), S s] w fun e w' => e = .returned (.bool (mt t s)) ∧ Below w.heap.size w w'
set_option maxRecDepth 100000 in
set_option maxHeartbeats 4000000 in
theorem fits_emp (s : List UInt8) : FitsC .emp s := by
  intro xs v l b tp k w hv hr
  have hx := hr
  obtain ⟨g, c, rfl, hg, hk, n0, n1, n2, n3⟩ := nv_node hv hx
  have HST := Lib.hid (FB.start (l := l) (b := b) (tp := tp) ⟨0, 0, 0, 0⟩ hv)
  have hst := HST.out
  have p1 : (0 : Int) ≤ (k : Int) := by omega
  have p2 : (k : Int) < (xs.length : Int) := by omega
  obtain ⟨a0, a1, a2, a3, _, _, _, _⟩ := four_at hst.p
  obtain ⟨d0, d1, d2, d3, _, _, _, _⟩ := four_at hst.r
  have HM : Hid (mt .emp s = s.isEmpty) := Lib.hid rfl
  generalize mt .emp s = M at *
  clear hv hst
  rcases Nat.eq_zero_or_pos s.length with h0 | h0
  · obtain rfl := List.length_eq_zero_iff.1 h0
    go_enter Tryz.func42, Tryz.ntmps42
    go_wp2_with fail
    go_ret
    exact ⟨by rw [HM.out]; rfl, HST.out.bl⟩
  · have q0 : ¬ (s.length : Int) = 0 := by omega
    have q1 : ((s.length : Int) == 0) = false := by simpa using q0
    have q2 : ¬ s.length = 0 := by omega
    have q3 : s.isEmpty = false := by
      cases s with
      | nil => exact absurd h0 (by simp)
      | cons => rfl
    have HM2 : Hid (M = false) := Lib.hid (by rw [HM.out, q3])
    clear HM
    go_enter Tryz.func42, Tryz.ntmps42
    go_wp2_with fail
    go_ret
    exact ⟨by rw [HM2.out]; first | rfl | (simp; done) | (simp; omega), HST.out.bl⟩
set_option maxRecDepth 100000 in
set_option maxHeartbeats 4000000 in
theorem fits_sgn (d : UInt8) (s : List UInt8) : FitsC (.sgn d) s := by
  intro xs v l b tp k w hv hr
  have hx := hr
  obtain ⟨g, c, rfl, hg, hk, n0, n1, n2, n3⟩ := nv_node hv hx
  have HST := Lib.hid (FB.start (l := l) (b := b) (tp := tp) ⟨1, d, 0, 0⟩ hv)
  have hst := HST.out
  have p1 : (0 : Int) ≤ (k : Int) := by omega
  have p2 : (k : Int) < (xs.length : Int) := by omega
  obtain ⟨a0, a1, a2, a3, _, _, _, _⟩ := four_at hst.p
  obtain ⟨d0, d1, d2, d3, _, _, _, _⟩ := four_at hst.r
  have HM : Hid (mt (.sgn d) s = (s == [d])) := Lib.hid rfl
  generalize mt (.sgn d) s = M at *
  clear hv hst
  by_cases h1 : s.length = 1
  · obtain ⟨x, rfl⟩ : ∃ x, s = [x] := by
      match s, h1 with
      | [x], _ => exact ⟨x, rfl⟩
    by_cases he : x = d
    · subst he
      have HM2 : Hid (M = true) := Lib.hid (by rw [HM.out]; simp)
      clear HM
      have hb0 : bu [x] 0 = x := rfl
      go_enter Tryz.func42, Tryz.ntmps42
      go_wp2_with fail
      go_quiet (fail)
      go_wp2_with fail
      go_ret
      exact ⟨by rw [HM2.out]; first | rfl | simp, below_drewN HST.out.bl _⟩
    · have HM2 : Hid (M = false) := Lib.hid (by rw [HM.out]; simpa using he)
      have e1 : ¬ x.toNat = d.toNat := fun e => he (UInt8.toNat_inj.1 e)
      have e2 : ¬ (x.toNat : Int) = (d.toNat : Int) := by omega
      have hb0 : bu [x] 0 = x := rfl
      clear HM
      go_enter Tryz.func42, Tryz.ntmps42
      go_wp2_with fail
      go_quiet (fail)
      go_wp2_with fail
      go_ret
      exact ⟨by rw [HM2.out]; first | rfl | simp [e2] | simp [e1], below_drewN HST.out.bl _⟩
  · have HM2 : Hid (M = false) := Lib.hid (by
      rw [HM.out]
      match s, h1 with
      | [], _ => rfl
      | [x], h => exact absurd rfl h
      | _ :: _ :: _, _ => simp)
    have q0 : ¬ (s.length : Int) = 1 := by omega
    have q1 : ((s.length : Int) == 1) = false := by simpa using q0
    have q2 : decide ((s.length : Int) = 1) = false := by simpa using q0
    have q3 : decide (s.length = 1) = false := by simpa using h1
    clear HM
    go_enter Tryz.func42, Tryz.ntmps42
    go_wp2_with fail
    go_quiet (fail)
    go_wp2_with fail
    go_ret
    exact ⟨by rw [HM2.out]; first | rfl | simp, below_drewN HST.out.bl _⟩
set_option maxRecDepth 100000 in
set_option maxHeartbeats 4000000 in
theorem fits_alt (tl tr : Rt) (s : List UInt8) (h1 : FitsC tl s) (h2 : FitsC tr s) : FitsC (.alt tl tr) s := by
  intro xs v l b tp k w hv hr
  obtain ⟨ka, kb, hx, hra, hrb⟩ := hr
  obtain ⟨g, c, rfl, hg, hk, n0, n1, n2, n3⟩ := nv_node hv hx
  have HST := Lib.hid (FB.start (l := l) (b := b) (tp := tp) ⟨2, 0, ka, kb⟩ hv)
  have hst := HST.out
  have p1 : (0 : Int) ≤ (k : Int) := by omega
  have p2 : (k : Int) < (xs.length : Int) := by omega
  obtain ⟨a0, a1, a2, a3, _, _, _, _⟩ := four_at hst.p
  obtain ⟨d0, d1, d2, d3, _, _, _, _⟩ := four_at hst.r
  have HM : Hid (mt (.alt tl tr) s = (mt tl s || mt tr s)) := Lib.hid rfl
  have HL := Lib.hid (fun W (h : NV W 0 (.slice (some ⟨g, 0, none⟩) xs.length c) xs) => h1 xs _ l b tp ka W h hra)
  have HR := Lib.hid (fun W (h : NV W 0 (.slice (some ⟨g, 0, none⟩) xs.length c) xs) => h2 xs _ l b tp kb W h hrb)
  generalize mt (.alt tl tr) s = M at *
  generalize mt tl s = m1 at *
  generalize mt tr s = m2 at *
  have HLs := Lib.hid (HL.out _ hst.nv)
  clear hv hst hra hrb h1 h2 HL
  go_enter Tryz.func42, Tryz.ntmps42
  go_wp2_with fail
  refine HLs.out.mono ?_
  rintro e w1 ⟨rfl, hb1⟩
  have hfb := HST.out.below hb1
  have HFB := Lib.hid hfb
  clear a0 a1 a2 a3 d0 d1 d2 d3 hb1
  obtain ⟨a0, a1, a2, a3, _, _, _, _⟩ := four_at hfb.p
  obtain ⟨d0, d1, d2, d3, _, _, _, _⟩ := four_at hfb.r
  have HRs := Lib.hid (HR.out _ hfb.nv)
  clear hfb
  cases m1
  · go_wp2_with fail
    refine HRs.out.mono ?_
    rintro e w2 ⟨rfl, hb2⟩
    have HFB2 := Lib.hid (HFB.out.below hb2)
    clear hb2
    go_wp2_with fail
    go_ret
    exact ⟨by rw [HM.out]; rfl, HFB2.out.bl⟩
  · go_wp2_with fail
    go_ret
    exact ⟨by rw [HM.out]; rfl, HFB.out.bl⟩
end Go.Proofs.YtchhbnnpannnhaaGreatDoor

namespace Go.Proofs.YtchhbnnpannnhaaGreatDoor
open Go.RowKit IntWalk
set_option linter.unusedSimpArgs false
attribute [local go_sem] byte_at str_app
theorem FB.all {w W : World} {v : Value} {l : List UInt8} {b : Bool} {tp : Nat} {x : N4} {xs : List N4} (h : FB w W v l b tp x xs) : (W.cell? ⟨w.heap.size, 0, none⟩ = some v ∧ W.cell? ⟨w.heap.size, 1, none⟩ = some (S l) ∧ W.cell? ⟨w.heap.size, 2, none⟩ = some (.bool b) ∧ W.cell? ⟨w.heap.size, 3, none⟩ = some (.int .i64 (tp : Int))) ∧ (W.cell? ⟨w.heap.size + 1, 2, none⟩ = some (.int .i64 (x.l : Int)) ∧ W.cell? ⟨w.heap.size + 1, 3, none⟩ = some (.int .i64 (x.r : Int))) ∧ FB w W v l b tp x xs := by
  obtain ⟨a0, a1, a2, a3, _, _, _, _⟩ := four_at h.p
  obtain ⟨d0, d1, d2, d3, _, _, _, _⟩ := four_at h.r
  exact ⟨⟨a0, a1, a2, a3⟩, ⟨d2, d3⟩, h⟩

set_option maxRecDepth 100000 in
set_option maxHeartbeats 4000000 in
theorem fits_seq (tl tr : Rt) (s : List UInt8) (hs : s.length ≤ 1000) (h1 : ∀ i, FitsC tl (s.take i)) (h2 : ∀ i, FitsC tr (s.drop i)) : FitsC (.seq tl tr) s := by
  intro xs v l b tp k w hv hr
  obtain ⟨ka, kb, hx, hra, hrb⟩ := hr
  obtain ⟨g, c, rfl, hg, hk, n0, n1, n2, n3⟩ := nv_node hv hx
  have HST := Lib.hid (FB.start (l := l) (b := b) (tp := tp) ⟨3, 0, ka, kb⟩ hv)
  have hst := HST.out
  have p1 : (0 : Int) ≤ (k : Int) := by omega
  have p2 : (k : Int) < (xs.length : Int) := by omega
  obtain ⟨a0, a1, a2, a3, _, _, _, _⟩ := four_at hst.p
  obtain ⟨d0, d1, d2, d3, _, _, _, _⟩ := four_at hst.r
  have HM : Hid (mt (.seq tl tr) s = anyP (fun i => mt tl (s.take i) && mt tr (s.drop i)) (s.length + 1)) := Lib.hid rfl
  have HL := Lib.hid (fun i W (h : NV W 0 (.slice (some ⟨g, 0, none⟩) xs.length c) xs) => h1 i xs _ l b tp ka W h hra)
  have HR := Lib.hid (fun i W (h : NV W 0 (.slice (some ⟨g, 0, none⟩) xs.length c) xs) => h2 i xs _ l b tp kb W h hrb)
  generalize mt (.seq tl tr) s = M at *
  clear hv hst hra hrb h1 h2
  go_enter Tryz.func42, Tryz.ntmps42
  go_wp2_with fail
  go_loopg [8] (s.length + 1) (fun f iv wr => ∃ i : Nat, i + f = s.length + 1 ∧ iv = .int .i64 (i : Int) ∧ FB w wr (.slice (some ⟨g, 0, none⟩) xs.length c) l b tp ⟨3, 0, ka, kb⟩ xs ∧ Hid (anyP (fun i => mt tl (s.take i) && mt tr (s.drop i)) i = false))
  case atStart => exact ⟨0, by omega, rfl, HST.out, Lib.hid rfl⟩
  case round =>
    obtain ⟨i, hif, rfl, hfb, HA⟩ := hrel
    clear a0 a1 a2 a3 d0 d1 d2 d3 HST n0 n1 n2 n3
    have HFB := Lib.hid hfb
    have HFD := Lib.hid hfb.drew
    obtain ⟨a0, a1, a2, a3, _, _, _, _⟩ := four_at hfb.p
    obtain ⟨d0, d1, d2, d3, _, _, _, _⟩ := four_at hfb.r
    clear hfb
    by_cases hlt : i ≤ s.length
    rotate_left
    · obtain rfl : i = s.length + 1 := by omega
      have q1 : ¬ ((s.length + 1 : Nat) : Int) ≤ (s.length : Int) := by omega
      have q2 : ¬ (s.length : Int) + 1 ≤ (s.length : Int) := by omega
      have HM2 : Hid (M = false) := Lib.hid (by rw [HM.out, HA.out])
      go_wp2_with fail
      go_ret
      exact ⟨by rw [HM2.out]; rfl, HFB.out.bl⟩
    obtain ⟨f, rfl⟩ : ∃ f, gk = f + 1 := ⟨gk - 1, by omega⟩
    have r1 : (i : Int) ≤ (s.length : Int) := by omega
    have r2 : (0 : Int) ≤ (i : Int) := by omega
    have r3 : IntKind.i64.wrap ((i : Int) + 1) = (i : Int) + 1 := i64_in _ (by omega)
    have hx1 := str_to s i
    have hx2 := str_from s i
    have HC1 := Lib.hid (HL.out i _ HFD.out.nv)
    have HC2 := Lib.hid (HR.out i)
    have HS1 : Hid (mt tl (s.take i) = true → mt tr (s.drop i) = true → M = true) := Lib.hid fun e1 e2 => by rw [HM.out]; exact anyP_of (i := i) (by omega) (by rw [e1, e2]; rfl)
    have HS2 : Hid ((mt tl (s.take i) && mt tr (s.drop i)) = false → anyP (fun i => mt tl (s.take i) && mt tr (s.drop i)) (i + 1) = false) := Lib.hid fun e => by rw [anyP_step, HA.out, e]; rfl
    generalize s.take i = sa at *
    generalize s.drop i = sb at *
    generalize hm1 : mt tl sa = m1 at *
    generalize hm2 : mt tr sb = m2 at *
    clear hm1 hm2 hlt HA
    cases m1
    · go_upto_region 12 with fail
      refine wp_region_held_drew (S := (fun W => (W.cell? ⟨w.heap.size, 0, none⟩ = some (.slice (some ⟨g, 0, none⟩) xs.length c) ∧ W.cell? ⟨w.heap.size, 1, none⟩ = some (S l) ∧ W.cell? ⟨w.heap.size, 2, none⟩ = some (.bool b) ∧ W.cell? ⟨w.heap.size, 3, none⟩ = some (.int .i64 (tp : Int))) ∧ (W.cell? ⟨w.heap.size + 1, 2, none⟩ = some (.int .i64 (ka : Int)) ∧ W.cell? ⟨w.heap.size + 1, 3, none⟩ = some (.int .i64 (kb : Int))) ∧ FB w W (.slice (some ⟨g, 0, none⟩) xs.length c) l b tp ⟨3, 0, ka, kb⟩ xs)) (by first | assumption | kernel_rfl | rfl) (FB.all HFD.out) (fun hH => ?_)
      refine wpAnyH_take (i := 0) (v := ?_) rfl (by kernel_rfl) (by kernel_rfl) (by kernel_rfl) (fun _ _ _ h => h) (Or.inl ⟨by rfl, ?_⟩) hH ?_
      rotate_left
      · intro W hSw; (try dsimp only at hSw); go_simp; try with_reducible rfl
      try simp only [Act.put, List.getElem_toArray, List.getElem_cons_zero, List.getElem_cons_succ, List.setIfInBounds_toArray, List.set_cons_zero, List.set_cons_succ]
      refine wpAnyH_take (i := 1) (v := ?_) rfl (by kernel_rfl) (by kernel_rfl) (by kernel_rfl) (fun _ _ _ h => h) (Or.inl ⟨by rfl, ?_⟩) hH ?_
      rotate_left
      · intro W hSw; (try dsimp only at hSw); go_simp; try with_reducible rfl
      try simp only [Act.put, List.getElem_toArray, List.getElem_cons_zero, List.getElem_cons_succ, List.setIfInBounds_toArray, List.set_cons_zero, List.set_cons_succ]
      refine wpAnyH_take (i := 2) (v := ?_) rfl (by kernel_rfl) (by kernel_rfl) (by kernel_rfl) (fun _ _ _ h => h) (Or.inl ⟨by rfl, ?_⟩) hH ?_
      rotate_left
      · intro W hSw; (try dsimp only at hSw); go_simp; try with_reducible rfl
      try simp only [Act.put, List.getElem_toArray, List.getElem_cons_zero, List.getElem_cons_succ, List.setIfInBounds_toArray, List.set_cons_zero, List.set_cons_succ]
      refine wpAnyH_take (i := 3) (v := ?_) rfl (by kernel_rfl) (by kernel_rfl) (by kernel_rfl) (fun _ _ _ h => h) (Or.inl ⟨by rfl, ?_⟩) hH ?_
      rotate_left
      · intro W hSw; (try dsimp only at hSw); go_simp; try with_reducible rfl
      try simp only [Act.put, List.getElem_toArray, List.getElem_cons_zero, List.getElem_cons_succ, List.setIfInBounds_toArray, List.set_cons_zero, List.set_cons_succ]
      refine wpAnyH_take (i := 4) (v := ?_) rfl (by kernel_rfl) (by kernel_rfl) (by kernel_rfl) (fun _ _ _ h => h) (Or.inl ⟨by rfl, ?_⟩) hH ?_
      rotate_left
      · intro W hSw; (try dsimp only at hSw); go_simp; try with_reducible rfl
      try simp only [Act.put, List.getElem_toArray, List.getElem_cons_zero, List.getElem_cons_succ, List.setIfInBounds_toArray, List.set_cons_zero, List.set_cons_succ]
      refine wpAnyH_take (i := 5) (v := ?_) rfl (by kernel_rfl) (by kernel_rfl) (by kernel_rfl) (fun _ _ _ h => h) (Or.inl ⟨by rfl, ?_⟩) hH ?_
      rotate_left
      · intro W hSw; (try dsimp only at hSw); go_simp; try with_reducible rfl
      try simp only [Act.put, List.getElem_toArray, List.getElem_cons_zero, List.getElem_cons_succ, List.setIfInBounds_toArray, List.set_cons_zero, List.set_cons_succ]
      refine wpAnyH_ready (rs := [6]) (by kernel_rfl) (by simp) (AllReadyH.cons rfl (fun K hK => ?_) AllReadyH.nil)
      go_simp
      (with_reducible refine Calls.mono HC1.out ?_)
      rintro e w5 ⟨rfl, hb5⟩
      go_wp2_with fail
      refine hK.out _ _ (FB.all (HFD.out.below hb5)) (fun hH5 => ?_)
      clear hK K
      try simp only [Act.put, List.getElem_toArray, List.getElem_cons_zero, List.getElem_cons_succ, List.setIfInBounds_toArray, List.set_cons_zero, List.set_cons_succ]
      refine wpAnyH_take (i := 7) (v := ?_) rfl (by kernel_rfl) (by kernel_rfl) (by kernel_rfl) (fun _ _ _ h => h) (Or.inl ⟨by rfl, ?_⟩) hH5 ?_
      rotate_left
      · intro W hSw; (try dsimp only at hSw); go_simp; try with_reducible rfl
      try simp only [Act.put, List.getElem_toArray, List.getElem_cons_zero, List.getElem_cons_succ, List.setIfInBounds_toArray, List.set_cons_zero, List.set_cons_succ]
      refine wpAnyH_take (i := 8) (v := undef) rfl (by kernel_rfl) (by kernel_rfl) (by kernel_rfl) (fun _ _ _ h => h) (Or.inr ⟨by rfl, rfl⟩) hH5 ?_
      try simp only [Act.put, List.getElem_toArray, List.getElem_cons_zero, List.getElem_cons_succ, List.setIfInBounds_toArray, List.set_cons_zero, List.set_cons_succ]
      refine wpAnyH_take (i := 9) (v := undef) rfl (by kernel_rfl) (by kernel_rfl) (by kernel_rfl) (fun _ _ _ h => h) (Or.inr ⟨by rfl, rfl⟩) hH5 ?_
      try simp only [Act.put, List.getElem_toArray, List.getElem_cons_zero, List.getElem_cons_succ, List.setIfInBounds_toArray, List.set_cons_zero, List.set_cons_succ]
      refine wpAnyH_take (i := 10) (v := undef) rfl (by kernel_rfl) (by kernel_rfl) (by kernel_rfl) (fun _ _ _ h => h) (Or.inr ⟨by rfl, rfl⟩) hH5 ?_
      try simp only [Act.put, List.getElem_toArray, List.getElem_cons_zero, List.getElem_cons_succ, List.setIfInBounds_toArray, List.set_cons_zero, List.set_cons_succ]
      refine wpAnyH_take (i := 11) (v := undef) rfl (by kernel_rfl) (by kernel_rfl) (by kernel_rfl) (fun _ _ _ h => h) (Or.inr ⟨by rfl, rfl⟩) hH5 ?_
      try simp only [Act.put, List.getElem_toArray, List.getElem_cons_zero, List.getElem_cons_succ, List.setIfInBounds_toArray, List.set_cons_zero, List.set_cons_succ]
      refine wpAnyH_take (i := 12) (v := undef) rfl (by kernel_rfl) (by kernel_rfl) (by kernel_rfl) (fun _ _ _ h => h) (Or.inr ⟨by rfl, rfl⟩) hH5 ?_
      try simp only [Act.put, List.getElem_toArray, List.getElem_cons_zero, List.getElem_cons_succ, List.setIfInBounds_toArray, List.set_cons_zero, List.set_cons_succ]
      refine wpAnyH_take (i := 13) (v := undef) rfl (by kernel_rfl) (by kernel_rfl) (by kernel_rfl) (fun _ _ _ h => h) (Or.inr ⟨by rfl, rfl⟩) hH5 ?_
      try simp only [Act.put, List.getElem_toArray, List.getElem_cons_zero, List.getElem_cons_succ, List.setIfInBounds_toArray, List.set_cons_zero, List.set_cons_succ]
      refine wpAnyH_take (i := 14) (v := undef) rfl (by kernel_rfl) (by kernel_rfl) (by kernel_rfl) (fun _ _ _ h => h) (Or.inr ⟨by rfl, rfl⟩) hH5 ?_
      try simp only [Act.put, List.getElem_toArray, List.getElem_cons_zero, List.getElem_cons_succ, List.setIfInBounds_toArray, List.set_cons_zero, List.set_cons_succ]
      refine wpAnyH_take (i := 15) (v := ?_) rfl (by kernel_rfl) (by kernel_rfl) (by kernel_rfl) (fun _ _ _ h => h) (Or.inl ⟨by rfl, ?_⟩) hH5 ?_
      rotate_left
      · intro W hSw; (try dsimp only at hSw); go_simp; try with_reducible rfl
      try simp only [Act.put, List.getElem_toArray, List.getElem_cons_zero, List.getElem_cons_succ, List.setIfInBounds_toArray, List.set_cons_zero, List.set_cons_succ]
      refine wpAnyH_done (by kernel_rfl) ?_ _
      all_goals
        have HF5 := Lib.hid (HFD.out.below hb5)
        have HA2 := Lib.hid (HS2.out rfl)
        clear hb5 hH hH5
        go_wp2_with fail
        go_roundg f
        case measure => omega
        case rel => exact ⟨i + 1, by omega, by simp, HF5.out, HA2⟩
    · cases m2
      · go_upto_region 12 with fail
        refine wp_region_held_drew (S := (fun W => (W.cell? ⟨w.heap.size, 0, none⟩ = some (.slice (some ⟨g, 0, none⟩) xs.length c) ∧ W.cell? ⟨w.heap.size, 1, none⟩ = some (S l) ∧ W.cell? ⟨w.heap.size, 2, none⟩ = some (.bool b) ∧ W.cell? ⟨w.heap.size, 3, none⟩ = some (.int .i64 (tp : Int))) ∧ (W.cell? ⟨w.heap.size + 1, 2, none⟩ = some (.int .i64 (ka : Int)) ∧ W.cell? ⟨w.heap.size + 1, 3, none⟩ = some (.int .i64 (kb : Int))) ∧ FB w W (.slice (some ⟨g, 0, none⟩) xs.length c) l b tp ⟨3, 0, ka, kb⟩ xs)) (by first | assumption | kernel_rfl | rfl) (FB.all HFD.out) (fun hH => ?_)
        refine wpAnyH_take (i := 0) (v := ?_) rfl (by kernel_rfl) (by kernel_rfl) (by kernel_rfl) (fun _ _ _ h => h) (Or.inl ⟨by rfl, ?_⟩) hH ?_
        rotate_left
        · intro W hSw; (try dsimp only at hSw); go_simp; try with_reducible rfl
        try simp only [Act.put, List.getElem_toArray, List.getElem_cons_zero, List.getElem_cons_succ, List.setIfInBounds_toArray, List.set_cons_zero, List.set_cons_succ]
        refine wpAnyH_take (i := 1) (v := ?_) rfl (by kernel_rfl) (by kernel_rfl) (by kernel_rfl) (fun _ _ _ h => h) (Or.inl ⟨by rfl, ?_⟩) hH ?_
        rotate_left
        · intro W hSw; (try dsimp only at hSw); go_simp; try with_reducible rfl
        try simp only [Act.put, List.getElem_toArray, List.getElem_cons_zero, List.getElem_cons_succ, List.setIfInBounds_toArray, List.set_cons_zero, List.set_cons_succ]
        refine wpAnyH_take (i := 2) (v := ?_) rfl (by kernel_rfl) (by kernel_rfl) (by kernel_rfl) (fun _ _ _ h => h) (Or.inl ⟨by rfl, ?_⟩) hH ?_
        rotate_left
        · intro W hSw; (try dsimp only at hSw); go_simp; try with_reducible rfl
        try simp only [Act.put, List.getElem_toArray, List.getElem_cons_zero, List.getElem_cons_succ, List.setIfInBounds_toArray, List.set_cons_zero, List.set_cons_succ]
        refine wpAnyH_take (i := 3) (v := ?_) rfl (by kernel_rfl) (by kernel_rfl) (by kernel_rfl) (fun _ _ _ h => h) (Or.inl ⟨by rfl, ?_⟩) hH ?_
        rotate_left
        · intro W hSw; (try dsimp only at hSw); go_simp; try with_reducible rfl
        try simp only [Act.put, List.getElem_toArray, List.getElem_cons_zero, List.getElem_cons_succ, List.setIfInBounds_toArray, List.set_cons_zero, List.set_cons_succ]
        refine wpAnyH_take (i := 4) (v := ?_) rfl (by kernel_rfl) (by kernel_rfl) (by kernel_rfl) (fun _ _ _ h => h) (Or.inl ⟨by rfl, ?_⟩) hH ?_
        rotate_left
        · intro W hSw; (try dsimp only at hSw); go_simp; try with_reducible rfl
        try simp only [Act.put, List.getElem_toArray, List.getElem_cons_zero, List.getElem_cons_succ, List.setIfInBounds_toArray, List.set_cons_zero, List.set_cons_succ]
        refine wpAnyH_take (i := 5) (v := ?_) rfl (by kernel_rfl) (by kernel_rfl) (by kernel_rfl) (fun _ _ _ h => h) (Or.inl ⟨by rfl, ?_⟩) hH ?_
        rotate_left
        · intro W hSw; (try dsimp only at hSw); go_simp; try with_reducible rfl
        try simp only [Act.put, List.getElem_toArray, List.getElem_cons_zero, List.getElem_cons_succ, List.setIfInBounds_toArray, List.set_cons_zero, List.set_cons_succ]
        refine wpAnyH_ready (rs := [6]) (by kernel_rfl) (by simp) (AllReadyH.cons rfl (fun K hK => ?_) AllReadyH.nil)
        go_simp
        (with_reducible refine Calls.mono HC1.out ?_)
        rintro e w5 ⟨rfl, hb5⟩
        go_wp2_with fail
        refine hK.out _ _ (FB.all (HFD.out.below hb5)) (fun hH5 => ?_)
        clear hK K
        try simp only [Act.put, List.getElem_toArray, List.getElem_cons_zero, List.getElem_cons_succ, List.setIfInBounds_toArray, List.set_cons_zero, List.set_cons_succ]
        refine wpAnyH_take (i := 7) (v := ?_) rfl (by kernel_rfl) (by kernel_rfl) (by kernel_rfl) (fun _ _ _ h => h) (Or.inl ⟨by rfl, ?_⟩) hH5 ?_
        rotate_left
        · intro W hSw; (try dsimp only at hSw); go_simp; try with_reducible rfl
        try simp only [Act.put, List.getElem_toArray, List.getElem_cons_zero, List.getElem_cons_succ, List.setIfInBounds_toArray, List.set_cons_zero, List.set_cons_succ]
        refine wpAnyH_take (i := 8) (v := ?_) rfl (by kernel_rfl) (by kernel_rfl) (by kernel_rfl) (fun _ _ _ h => h) (Or.inl ⟨by rfl, ?_⟩) hH5 ?_
        rotate_left
        · intro W hSw; (try dsimp only at hSw); go_simp; try with_reducible rfl
        try simp only [Act.put, List.getElem_toArray, List.getElem_cons_zero, List.getElem_cons_succ, List.setIfInBounds_toArray, List.set_cons_zero, List.set_cons_succ]
        refine wpAnyH_take (i := 9) (v := ?_) rfl (by kernel_rfl) (by kernel_rfl) (by kernel_rfl) (fun _ _ _ h => h) (Or.inl ⟨by rfl, ?_⟩) hH5 ?_
        rotate_left
        · intro W hSw; (try dsimp only at hSw); go_simp; try with_reducible rfl
        try simp only [Act.put, List.getElem_toArray, List.getElem_cons_zero, List.getElem_cons_succ, List.setIfInBounds_toArray, List.set_cons_zero, List.set_cons_succ]
        refine wpAnyH_take (i := 10) (v := ?_) rfl (by kernel_rfl) (by kernel_rfl) (by kernel_rfl) (fun _ _ _ h => h) (Or.inl ⟨by rfl, ?_⟩) hH5 ?_
        rotate_left
        · intro W hSw; (try dsimp only at hSw); go_simp; try with_reducible rfl
        try simp only [Act.put, List.getElem_toArray, List.getElem_cons_zero, List.getElem_cons_succ, List.setIfInBounds_toArray, List.set_cons_zero, List.set_cons_succ]
        refine wpAnyH_take (i := 11) (v := ?_) rfl (by kernel_rfl) (by kernel_rfl) (by kernel_rfl) (fun _ _ _ h => h) (Or.inl ⟨by rfl, ?_⟩) hH5 ?_
        rotate_left
        · intro W hSw; (try dsimp only at hSw); go_simp; try with_reducible rfl
        try simp only [Act.put, List.getElem_toArray, List.getElem_cons_zero, List.getElem_cons_succ, List.setIfInBounds_toArray, List.set_cons_zero, List.set_cons_succ]
        refine wpAnyH_take (i := 12) (v := ?_) rfl (by kernel_rfl) (by kernel_rfl) (by kernel_rfl) (fun _ _ _ h => h) (Or.inl ⟨by rfl, ?_⟩) hH5 ?_
        rotate_left
        · intro W hSw; (try dsimp only at hSw); go_simp; try with_reducible rfl
        try simp only [Act.put, List.getElem_toArray, List.getElem_cons_zero, List.getElem_cons_succ, List.setIfInBounds_toArray, List.set_cons_zero, List.set_cons_succ]
        refine wpAnyH_take (i := 13) (v := ?_) rfl (by kernel_rfl) (by kernel_rfl) (by kernel_rfl) (fun _ _ _ h => h) (Or.inl ⟨by rfl, ?_⟩) hH5 ?_
        rotate_left
        · intro W hSw; (try dsimp only at hSw); go_simp; try with_reducible rfl
        try simp only [Act.put, List.getElem_toArray, List.getElem_cons_zero, List.getElem_cons_succ, List.setIfInBounds_toArray, List.set_cons_zero, List.set_cons_succ]
        refine wpAnyH_ready (rs := [14]) (by kernel_rfl) (by simp) (AllReadyH.cons rfl (fun K hK => ?_) AllReadyH.nil)
        go_simp
        have hf5 := HFD.out.below hb5
        (with_reducible refine Calls.mono (HC2.out _ hf5.nv) ?_)
        rintro e w6 ⟨rfl, hb6⟩
        go_wp2_with fail
        refine hK.out _ _ (FB.all (hf5.below hb6)) (fun hH6 => ?_)
        clear hK K
        try simp only [Act.put, List.getElem_toArray, List.getElem_cons_zero, List.getElem_cons_succ, List.setIfInBounds_toArray, List.set_cons_zero, List.set_cons_succ]
        refine wpAnyH_take (i := 15) (v := ?_) rfl (by kernel_rfl) (by kernel_rfl) (by kernel_rfl) (fun _ _ _ h => h) (Or.inl ⟨by rfl, ?_⟩) hH6 ?_
        rotate_left
        · intro W hSw; (try dsimp only at hSw); go_simp; try with_reducible rfl
        try simp only [Act.put, List.getElem_toArray, List.getElem_cons_zero, List.getElem_cons_succ, List.setIfInBounds_toArray, List.set_cons_zero, List.set_cons_succ]
        refine wpAnyH_done (by kernel_rfl) ?_ _
        have HF6 := Lib.hid (hf5.below hb6)
        have HA2 := Lib.hid (HS2.out rfl)
        clear hb5 hb6 hf5 hH hH5 hH6
        go_wp2_with fail
        go_roundg f
        case measure => omega
        case rel => exact ⟨i + 1, by omega, by simp, HF6.out, HA2⟩
      · go_upto_region 12 with fail
        refine wp_region_held_drew (S := (fun W => (W.cell? ⟨w.heap.size, 0, none⟩ = some (.slice (some ⟨g, 0, none⟩) xs.length c) ∧ W.cell? ⟨w.heap.size, 1, none⟩ = some (S l) ∧ W.cell? ⟨w.heap.size, 2, none⟩ = some (.bool b) ∧ W.cell? ⟨w.heap.size, 3, none⟩ = some (.int .i64 (tp : Int))) ∧ (W.cell? ⟨w.heap.size + 1, 2, none⟩ = some (.int .i64 (ka : Int)) ∧ W.cell? ⟨w.heap.size + 1, 3, none⟩ = some (.int .i64 (kb : Int))) ∧ FB w W (.slice (some ⟨g, 0, none⟩) xs.length c) l b tp ⟨3, 0, ka, kb⟩ xs)) (by first | assumption | kernel_rfl | rfl) (FB.all HFD.out) (fun hH => ?_)
        refine wpAnyH_take (i := 0) (v := ?_) rfl (by kernel_rfl) (by kernel_rfl) (by kernel_rfl) (fun _ _ _ h => h) (Or.inl ⟨by rfl, ?_⟩) hH ?_
        rotate_left
        · intro W hSw; (try dsimp only at hSw); go_simp; try with_reducible rfl
        try simp only [Act.put, List.getElem_toArray, List.getElem_cons_zero, List.getElem_cons_succ, List.setIfInBounds_toArray, List.set_cons_zero, List.set_cons_succ]
        refine wpAnyH_take (i := 1) (v := ?_) rfl (by kernel_rfl) (by kernel_rfl) (by kernel_rfl) (fun _ _ _ h => h) (Or.inl ⟨by rfl, ?_⟩) hH ?_
        rotate_left
        · intro W hSw; (try dsimp only at hSw); go_simp; try with_reducible rfl
        try simp only [Act.put, List.getElem_toArray, List.getElem_cons_zero, List.getElem_cons_succ, List.setIfInBounds_toArray, List.set_cons_zero, List.set_cons_succ]
        refine wpAnyH_take (i := 2) (v := ?_) rfl (by kernel_rfl) (by kernel_rfl) (by kernel_rfl) (fun _ _ _ h => h) (Or.inl ⟨by rfl, ?_⟩) hH ?_
        rotate_left
        · intro W hSw; (try dsimp only at hSw); go_simp; try with_reducible rfl
        try simp only [Act.put, List.getElem_toArray, List.getElem_cons_zero, List.getElem_cons_succ, List.setIfInBounds_toArray, List.set_cons_zero, List.set_cons_succ]
        refine wpAnyH_take (i := 3) (v := ?_) rfl (by kernel_rfl) (by kernel_rfl) (by kernel_rfl) (fun _ _ _ h => h) (Or.inl ⟨by rfl, ?_⟩) hH ?_
        rotate_left
        · intro W hSw; (try dsimp only at hSw); go_simp; try with_reducible rfl
        try simp only [Act.put, List.getElem_toArray, List.getElem_cons_zero, List.getElem_cons_succ, List.setIfInBounds_toArray, List.set_cons_zero, List.set_cons_succ]
        refine wpAnyH_take (i := 4) (v := ?_) rfl (by kernel_rfl) (by kernel_rfl) (by kernel_rfl) (fun _ _ _ h => h) (Or.inl ⟨by rfl, ?_⟩) hH ?_
        rotate_left
        · intro W hSw; (try dsimp only at hSw); go_simp; try with_reducible rfl
        try simp only [Act.put, List.getElem_toArray, List.getElem_cons_zero, List.getElem_cons_succ, List.setIfInBounds_toArray, List.set_cons_zero, List.set_cons_succ]
        refine wpAnyH_take (i := 5) (v := ?_) rfl (by kernel_rfl) (by kernel_rfl) (by kernel_rfl) (fun _ _ _ h => h) (Or.inl ⟨by rfl, ?_⟩) hH ?_
        rotate_left
        · intro W hSw; (try dsimp only at hSw); go_simp; try with_reducible rfl
        try simp only [Act.put, List.getElem_toArray, List.getElem_cons_zero, List.getElem_cons_succ, List.setIfInBounds_toArray, List.set_cons_zero, List.set_cons_succ]
        refine wpAnyH_ready (rs := [6]) (by kernel_rfl) (by simp) (AllReadyH.cons rfl (fun K hK => ?_) AllReadyH.nil)
        go_simp
        (with_reducible refine Calls.mono HC1.out ?_)
        rintro e w5 ⟨rfl, hb5⟩
        go_wp2_with fail
        refine hK.out _ _ (FB.all (HFD.out.below hb5)) (fun hH5 => ?_)
        clear hK K
        try simp only [Act.put, List.getElem_toArray, List.getElem_cons_zero, List.getElem_cons_succ, List.setIfInBounds_toArray, List.set_cons_zero, List.set_cons_succ]
        refine wpAnyH_take (i := 7) (v := ?_) rfl (by kernel_rfl) (by kernel_rfl) (by kernel_rfl) (fun _ _ _ h => h) (Or.inl ⟨by rfl, ?_⟩) hH5 ?_
        rotate_left
        · intro W hSw; (try dsimp only at hSw); go_simp; try with_reducible rfl
        try simp only [Act.put, List.getElem_toArray, List.getElem_cons_zero, List.getElem_cons_succ, List.setIfInBounds_toArray, List.set_cons_zero, List.set_cons_succ]
        refine wpAnyH_take (i := 8) (v := ?_) rfl (by kernel_rfl) (by kernel_rfl) (by kernel_rfl) (fun _ _ _ h => h) (Or.inl ⟨by rfl, ?_⟩) hH5 ?_
        rotate_left
        · intro W hSw; (try dsimp only at hSw); go_simp; try with_reducible rfl
        try simp only [Act.put, List.getElem_toArray, List.getElem_cons_zero, List.getElem_cons_succ, List.setIfInBounds_toArray, List.set_cons_zero, List.set_cons_succ]
        refine wpAnyH_take (i := 9) (v := ?_) rfl (by kernel_rfl) (by kernel_rfl) (by kernel_rfl) (fun _ _ _ h => h) (Or.inl ⟨by rfl, ?_⟩) hH5 ?_
        rotate_left
        · intro W hSw; (try dsimp only at hSw); go_simp; try with_reducible rfl
        try simp only [Act.put, List.getElem_toArray, List.getElem_cons_zero, List.getElem_cons_succ, List.setIfInBounds_toArray, List.set_cons_zero, List.set_cons_succ]
        refine wpAnyH_take (i := 10) (v := ?_) rfl (by kernel_rfl) (by kernel_rfl) (by kernel_rfl) (fun _ _ _ h => h) (Or.inl ⟨by rfl, ?_⟩) hH5 ?_
        rotate_left
        · intro W hSw; (try dsimp only at hSw); go_simp; try with_reducible rfl
        try simp only [Act.put, List.getElem_toArray, List.getElem_cons_zero, List.getElem_cons_succ, List.setIfInBounds_toArray, List.set_cons_zero, List.set_cons_succ]
        refine wpAnyH_take (i := 11) (v := ?_) rfl (by kernel_rfl) (by kernel_rfl) (by kernel_rfl) (fun _ _ _ h => h) (Or.inl ⟨by rfl, ?_⟩) hH5 ?_
        rotate_left
        · intro W hSw; (try dsimp only at hSw); go_simp; try with_reducible rfl
        try simp only [Act.put, List.getElem_toArray, List.getElem_cons_zero, List.getElem_cons_succ, List.setIfInBounds_toArray, List.set_cons_zero, List.set_cons_succ]
        refine wpAnyH_take (i := 12) (v := ?_) rfl (by kernel_rfl) (by kernel_rfl) (by kernel_rfl) (fun _ _ _ h => h) (Or.inl ⟨by rfl, ?_⟩) hH5 ?_
        rotate_left
        · intro W hSw; (try dsimp only at hSw); go_simp; try with_reducible rfl
        try simp only [Act.put, List.getElem_toArray, List.getElem_cons_zero, List.getElem_cons_succ, List.setIfInBounds_toArray, List.set_cons_zero, List.set_cons_succ]
        refine wpAnyH_take (i := 13) (v := ?_) rfl (by kernel_rfl) (by kernel_rfl) (by kernel_rfl) (fun _ _ _ h => h) (Or.inl ⟨by rfl, ?_⟩) hH5 ?_
        rotate_left
        · intro W hSw; (try dsimp only at hSw); go_simp; try with_reducible rfl
        try simp only [Act.put, List.getElem_toArray, List.getElem_cons_zero, List.getElem_cons_succ, List.setIfInBounds_toArray, List.set_cons_zero, List.set_cons_succ]
        refine wpAnyH_ready (rs := [14]) (by kernel_rfl) (by simp) (AllReadyH.cons rfl (fun K hK => ?_) AllReadyH.nil)
        go_simp
        have hf5 := HFD.out.below hb5
        (with_reducible refine Calls.mono (HC2.out _ hf5.nv) ?_)
        rintro e w6 ⟨rfl, hb6⟩
        go_wp2_with fail
        refine hK.out _ _ (FB.all (hf5.below hb6)) (fun hH6 => ?_)
        clear hK K
        try simp only [Act.put, List.getElem_toArray, List.getElem_cons_zero, List.getElem_cons_succ, List.setIfInBounds_toArray, List.set_cons_zero, List.set_cons_succ]
        refine wpAnyH_take (i := 15) (v := ?_) rfl (by kernel_rfl) (by kernel_rfl) (by kernel_rfl) (fun _ _ _ h => h) (Or.inl ⟨by rfl, ?_⟩) hH6 ?_
        rotate_left
        · intro W hSw; (try dsimp only at hSw); go_simp; try with_reducible rfl
        try simp only [Act.put, List.getElem_toArray, List.getElem_cons_zero, List.getElem_cons_succ, List.setIfInBounds_toArray, List.set_cons_zero, List.set_cons_succ]
        refine wpAnyH_done (by kernel_rfl) ?_ _
        have HF6 := Lib.hid (hf5.below hb6)
        have HM2 : Hid (M = true) := Lib.hid (HS1.out (by first | rfl | trivial) (by first | rfl | trivial))
        clear hb5 hb6 hf5 hH hH5 hH6
        go_wp2_with fail
        go_ret
        exact ⟨by rw [HM2.out]; rfl, HF6.out.bl⟩
end Go.Proofs.YtchhbnnpannnhaaGreatDoor
