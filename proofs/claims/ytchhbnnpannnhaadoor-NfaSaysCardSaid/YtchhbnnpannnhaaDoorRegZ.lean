/- The document's Read, fits, Letters, Signs: their walks. No condition. -/
import Derived.Test.YtchhbnnpannnhaaDoorRegY
import Derived.Shelf.RegionOpenPlain
namespace Go.Proofs.YtchhbnnpannnhaaDoor
open Go.RowKit IntWalk
attribute [local go_sem] byte_at str_app

theorem starsR_len : ∀ (s : List UInt8) (m : Rt), (starsR m s).2.length ≤ s.length
  | [], m => Nat.le_refl _
  | c :: s, m => by
    unfold starsR
    split
    · have := starsR_len s (.str m); simp; omega
    · exact Nat.le_refl _
theorem partR_sh (n : Nat) : ∀ s t r, partR (parR n) s = some (t, r) → r.length < s.length := by
  intro s t r h
  unfold partR at h
  cases hq : oneR (parR n) s with
  | none => rw [hq] at h; cases h
  | some p =>
    obtain ⟨m, s2⟩ := p
    rw [hq] at h
    injection h with h
    obtain ⟨h1, h2⟩ := (lse_par n).one s 0
    have hs : s2.length < s.length := by
      cases ho : oneE (parE n) s 0 with
      | none => rw [h1 ho] at hq; cases hq
      | some z =>
        obtain ⟨t', r', k'⟩ := z
        obtain ⟨rt, e, _, _⟩ := h2 _ _ _ ho
        rw [e] at hq
        injection hq with hq
        injection hq with _ hq
        have := (sh_par n).one _ _ _ _ _ ho
        rw [← hq]; exact this
    have h3 := starsR_len s2 m
    have : r = (starsR m s2).2 := by rw [h]
    rw [this]; omega
theorem rowR_sh (n : Nat) : ∀ s t r, rowR (parR n) s = some (t, r) → r.length ≤ s.length := by
  intro s t r h
  obtain ⟨h1, h2⟩ := (lse_par n).row s 0
  cases ho : rowE (parE n) s 0 with
  | none => rw [h1 ho] at h; cases h
  | some z =>
    obtain ⟨t', r', k'⟩ := z
    obtain ⟨rt, e, _, _⟩ := h2 _ _ _ ho
    rw [e] at h
    injection h with h
    injection h with _ h
    rw [← h]; exact (sh_par n).row _ _ _ _ _ ho
theorem con_allR : ∀ n, ConEitR (parR (n + 1)) n
  | 0 => eitR_walk _ 0 (rowR_walk _ 0 (fun v xs l k w hv h0 hn _ => by omega) (partR_sh 0)) (rowR_sh 0)
  | n + 1 => eitR_walk _ (n + 1) (rowR_walk _ (n + 1) (part_walk _ n (con_allR n)) (partR_sh (n + 1))) (rowR_sh (n + 1))
theorem rdE_par (s : List UInt8) : rdR s = none ↔ par s = none := ⟨par_none, rd_none⟩
theorem res_cell_tmpZ {P : Program} {fn : Func} {p q : Tmp} {ty : TypeId} (h : fn.results = #[.cell p ty, .tmp q]) (tmps : Array Value) (w : World) (g : Nat) (t : TypeId) (cs : Array Value) (fr : Nat × Nat) (d : TypeDesc)
    (hp : tmps.getD p undef = .pointer (some ⟨g, 0, none⟩)) (hg : w.heap[g]? = some (.cells cs t fr))
    (hu : P.underlying ty = some d) (hd : (match d with | .struct _ | .array _ _ => true | _ => false) = true) (hi : (P.info? ty).map (·.size) = some cs.size) :
    (results fn tmps).run P w = .ok (.tuple #[.agg cs, tmps.getD q undef]) w := by
  have hp' : tmps[p]?.getD undef = .pointer (some ⟨g, 0, none⟩) := by simpa using hp
  simp [results, h, hp', asAddr, run_loadVar_row w g t ty cs fr d hg hu hd hi]
/-- What Read answers. -/
def ReadSays (s : List UInt8) (e : Ending) (w' : World) : Prop :=
  (∃ k, k ≠ 0 ∧ (12 < s.length → k = 4) ∧ (s.length ≤ 12 → k = 2 ∧ rdR s = none) ∧ e = .returned (.tuple #[PV (.slice none 0 0) [] false 0, .int .i64 k])) ∨
  (s.length ≤ 12 ∧ ∃ rt v xs k, rdR s = some rt ∧ e = .returned (.tuple #[PV v [] false k, .int .i64 0]) ∧ NV w' 0 v xs ∧ RepR xs rt k ∧ xs.length ≤ 60)
theorem two_old (w : World) (a b : Obj) : ((w.alloc a).alloc b).heap[w.heap.size]? = some a ∧ ((w.alloc a).alloc b).heap[w.heap.size + 1]? = some b ∧ Below w.heap.size w ((w.alloc a).alloc b) := by
  have e1 : (w.alloc a).heap.size = w.heap.size + 1 := by simp
  refine ⟨?_, by rw [← e1]; exact heap_alloc_new (w.alloc a) b, ((Below.refl _ w).alloc (Nat.le_refl _) _).alloc (by simp) _⟩
  rw [Lib.alloc_old _ _ _ (by rw [e1]; omega)]; exact heap_alloc_new w a
set_option maxRecDepth 100000 in
set_option maxHeartbeats 4000000 in
theorem readR_any (s : List UInt8) (w : World) (h9 : s.length ≤ 9223372036854775807) :
    Calls Tryd.prog 4 #[S s] w fun e w' => ReadSays s e w' ∧ Below w.heap.size w w' := by
  by_cases h12 : 12 < s.length
  · have HL := Lib.hid h12
    have p1 : (12 : Int) < (s.length : Int) := by omega
    have h1 := heap_alloc_new w (pObj (.slice none 0 0) [] false 0)
    have HB := Lib.hid ((Below.refl w.heap.size w).alloc (Nat.le_refl _) (pObj (.slice none 0 0) [] false 0))
    have H1 := Lib.hid h1
    clear h1 h12
    go_enter Tryd.func4, Tryd.ntmps4
    go_wp2_with fail
    refine bodyPost_ret (res_cell_tmpZ rfl _ _ w.heap.size 24 _ (0, 0) _ rfl H1.out Tryd.underlying24 rfl (by kernel_rfl)) rfl ?_
    exact ⟨.inl ⟨4, by decide, fun _ => rfl, fun h => absurd HL.out (by omega), rfl⟩, HB.out⟩
  have p1 : ¬ (12 : Int) < (s.length : Int) := by omega
  have h12' : s.length ≤ 12 := by omega
  have HC := Lib.hid (fun (v : Value) (k : Nat) W h => con_allR s.length v [] s k W h (Nat.le_refl _) (by simp; omega))
  have HRD : Hid (rdR s = match parR (s.length + 1) s with
    | some (t, []) => some t
    | _ => none) := Lib.hid rfl
  generalize parR (s.length + 1) s = Z at *
  obtain ⟨h1, h2, hB⟩ := two_old w (pObj (.slice none 0 0) [] false 0) (pObj (.slice none 0 0) s false 0)
  have HB := Lib.hid hB; have H1 := Lib.hid h1; have H2 := Lib.hid h2
  clear hB h1 h2 h12
  go_enter Tryd.func4, Tryd.ntmps4
  go_wp2_with fail
  refine (HC.out (.slice none 0 0) 0 _ (World.ownsRow_nil _ _ _ _)).mono ?_
  rintro e w3 ⟨⟨v3, ys3, l3, b3, k3, rfl, hn3, hle3, hll3, hm3⟩, hb3⟩
  rw [List.nil_append] at hn3 hle3 hm3
  have hp := (hb3.block _ (Array.getElem?_eq_some_iff.1 H2.out).1).trans H2.out
  have hr := (hb3.block _ (Array.getElem?_eq_some_iff.1 H1.out).1).trans H1.out
  have HB3 := Lib.hid (HB.out.trans (hb3.mono HB.out.size))
  have HR := Lib.hid hr
  have HNV := Lib.hid ((hn3.set4 hp v3 (S l3) (.bool b3) (.int .i64 (k3 : Int))))
  have HNV2 := Lib.hid (NV.set4 HNV.out ((set4_other (by omega) _ _ _ _).trans hr) v3 (S l3) (.bool b3) (.int .i64 (k3 : Int)))
  obtain ⟨A3, c3, rfl, _⟩ := own_shape hn3
  obtain ⟨n3, hn3e⟩ : ∃ n3, n3 = ys3.length := ⟨_, rfl⟩
  rw [← hn3e] at HNV HNV2 hle3 ⊢
  have HN3 := Lib.hid hn3e
  obtain ⟨a0, a1, a2, a3, z0, z1, z2, z3⟩ := four_at hp
  obtain ⟨d0, d1, d2, d3, x0, x1, x2, x3⟩ := four_at hr
  have hle4 : n3 ≤ 50 := by simp at hle3; omega
  clear hb3 hn3 hn3e hp hr HC hle3 hll3
  have HFB := Lib.hid (fun x y z u => below_set4 (g := w.heap.size + 1) HB3.out (Nat.le_succ _) x y z u)
  have HFN := Lib.hid (fun x y z u x2 y2 z2 u2 => below_set4 (g := w.heap.size) (HFB.out x y z u) (Nat.le_refl _) x2 y2 z2 u2)
  have HRR : Hid (∀ x y z u, (st4 w3 (w.heap.size + 1) x y z u).heap[w.heap.size]? = some (pObj (.slice none 0 0) [] false 0)) := Lib.hid fun x y z u => (set4_other (by omega) _ _ _ _).trans HR.out
  cases b3
  · by_cases hl : l3 = []
    · subst hl
      match Z, hm3, HRD with
      | none, hm3, _ => exact absurd (show false = true from hm3) (by decide)
      | some (rt, r), hm3, HRD =>
        obtain ⟨_, hr0, hrp⟩ := hm3
        subst hr0
        have HRP := Lib.hid hrp
        clear hrp
        go_wp2_with fail
        refine bodyPost_ret (res_cell_tmpZ rfl _ _ w.heap.size 24 _ (0, 0) _ rfl (set4 (HRR.out _ _ _ _)) Tryd.underlying24 rfl (by kernel_rfl)) rfl ?_
        exact ⟨.inr ⟨h12', rt, _, ys3, k3, HRD.out, rfl, HNV2.out, HRP.out, by have := HN3.out; omega⟩, HFN.out _ _ _ _ _ _ _ _⟩
    · have hpos := List.length_pos_iff.2 hl
      have q1 : (0 : Int) < (l3.length : Int) := by omega
      have HN : Hid (rdR s = none) := Lib.hid (by
        rw [HRD.out]
        match Z, hm3 with
        | none, hm3 => rfl
        | some (rt, r), hm3 =>
          obtain ⟨_, hr0, _⟩ := hm3
          subst hr0
          cases l3 with
          | nil => exact absurd rfl hl
          | cons a b => rfl)
      clear hm3 HRD hl
      go_wp2_with fail
      refine bodyPost_ret (res_cell_tmpZ rfl _ _ w.heap.size 24 _ (0, 0) _ rfl (set4 (HRR.out _ _ _ _)) Tryd.underlying24 rfl (by kernel_rfl)) rfl ?_
      exact ⟨.inl ⟨2, by decide, fun h => absurd h (by omega), fun _ => ⟨rfl, HN.out⟩, rfl⟩, HFN.out _ _ _ _ _ _ _ _⟩
  · have HN : Hid (rdR s = none) := Lib.hid (by
      rw [HRD.out]
      match Z, hm3 with
      | none, hm3 => rfl
      | some (rt, r), hm3 => exact absurd hm3.1 (by decide))
    clear hm3 HRD
    go_wp2_with fail
    refine bodyPost_ret (res_cell_tmpZ rfl _ _ w.heap.size 24 _ (0, 0) _ rfl (set4 (HRR.out _ _ _ _)) Tryd.underlying24 rfl (by kernel_rfl)) rfl ?_
    exact ⟨.inl ⟨2, by decide, fun h => absurd h (by omega), fun _ => ⟨rfl, HN.out⟩, rfl⟩, HFN.out _ _ _ _ _ _ _ _⟩
end Go.Proofs.YtchhbnnpannnhaaDoor
