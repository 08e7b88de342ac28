/- package least's Of, at a machine that nothing is wrong with; and where something is. No condition. -/
import Derived.Test.YtfglajddibjnjaaDoorLsK
import Derived.Test.YtfglajddibjnjaaDoorLsP
namespace Go.Proofs.YtfglajddibjnjaaDoor
open Go.RowKit IntWalk Go.Maps
set_option linter.unusedSimpArgs false
attribute [local go_sem] byte_at str_app
attribute [local go_sem ↓] Go.wp_at_zero Go.wp_at_succ

theorem res_cell_tmp {P : Program} {fn : Func} {p q : Tmp} {ty : TypeId} (h : fn.results = #[.cell p ty, .tmp q]) (tmps : Array Value) (w : World) (g : Nat) (t : TypeId) (cs : Array Value) (fr : Nat × Nat) (d : TypeDesc)
    (hp : tmps.getD p undef = .pointer (some ⟨g, 0, none⟩)) (hg : w.heap[g]? = some (.cells cs t fr))
    (hu : P.underlying ty = some d) (hd : (match d with | .struct _ | .array _ _ => true | _ => false) = true) (hi : (P.info? ty).map (·.size) = some cs.size) :
    (results fn tmps).run P w = .ok (.tuple #[.agg cs, tmps.getD q undef]) w := by
  have hp' : tmps[p]?.getD undef = .pointer (some ⟨g, 0, none⟩) := by simpa using hp
  simp [results, h, hp', asAddr, run_loadVar_row w g t ty cs fr d hg hu hd hi]
theorem three_atL {w : World} {g : Nat} {a b c : Value} {t : TypeId} (h : w.heap[g]? = some (.cells #[a, b, c] t (0, 0))) : w.cell? ⟨g, 0, none⟩ = some a ∧ w.cell? ⟨g, 1, none⟩ = some b ∧ w.cell? ⟨g, 2, none⟩ = some c ∧ w.frozen? ⟨g, 0, none⟩ = false ∧ w.frozen? ⟨g, 1, none⟩ = false ∧ w.frozen? ⟨g, 2, none⟩ = false :=
  ⟨by rw [Lib.cell_of_heap h]; rfl, by rw [Lib.cell_of_heap h]; rfl, by rw [Lib.cell_of_heap h]; rfl, Lib.frozen_of_heap h 0, Lib.frozen_of_heap h 1, Lib.frozen_of_heap h 2⟩
theorem set3L {w : World} {g : Nat} {a b c x y z : Value} {t : TypeId} (h : w.heap[g]? = some (.cells #[a, b, c] t (0, 0))) : (((w.setCell ⟨g, 0, none⟩ x).setCell ⟨g, 1, none⟩ y).setCell ⟨g, 2, none⟩ z).heap[g]? = some (.cells #[x, y, z] t (0, 0)) := by
  simp [World.setCell, Array.getElem?_modify, h]

set_option maxRecDepth 100000 in
set_option maxHeartbeats 4000000 in
theorem of_err (M : Mc) (A A2 : Option Addr) (n c m c2 B : Nat) (w : World) (hM : MacW w B A n A2 m M) (hB : B ≤ w.heap.size) (hw : M.wrong ≠ 0) :
    Calls Tryd.prog 8 #[mcv M.sg A n c A2 m c2] w fun e w' => e = .returned (.tuple #[mcv [] none 0 0 none 0 0, errV M.wrong]) ∧ Below w.heap.size w w' := by
  obtain ⟨c0, c1, c2'⟩ := mac_cells w M.sg A n c A2 m c2 25
  generalize hw1 : w.alloc (.cells #[S M.sg, .slice A n c, .slice A2 m c2] 25) = w1 at *
  have HZ1 : w1.heap.size = w.heap.size + 1 := by rw [← hw1]; simp
  have HB1 : Below w.heap.size w w1 := by rw [← hw1]; exact (Below.refl _ w).alloc (Nat.le_refl _) _
  -- the result's cell
  have HB2 := Lib.hid (HB1.alloc (by omega) (.cells #[S [], .slice none 0 0, .slice none 0 0] 25))
  have HR2 : Hid ((w1.alloc (.cells #[S [], .slice none 0 0, .slice none 0 0] 25)).heap[w1.heap.size]? = some (.cells #[S [], .slice none 0 0, .slice none 0 0] 25 (0, 0))) := Lib.hid (heap_alloc_new w1 _)
  have k0 : (w1.alloc (.cells #[S [], .slice none 0 0, .slice none 0 0] 25)).cell? ⟨w.heap.size, 0, none⟩ = some (S M.sg) := (World.cell?_alloc_lt w1 _ ⟨w.heap.size, 0, none⟩ (show w.heap.size < w1.heap.size by omega)).trans c0
  have k1 : (w1.alloc (.cells #[S [], .slice none 0 0, .slice none 0 0] 25)).cell? ⟨w.heap.size, 1, none⟩ = some (.slice A n c) := (World.cell?_alloc_lt w1 _ ⟨w.heap.size, 1, none⟩ (show w.heap.size < w1.heap.size by omega)).trans c1
  have k2 : (w1.alloc (.cells #[S [], .slice none 0 0, .slice none 0 0] 25)).cell? ⟨w.heap.size, 2, none⟩ = some (.slice A2 m c2) := (World.cell?_alloc_lt w1 _ ⟨w.heap.size, 2, none⟩ (show w.heap.size < w1.heap.size by omega)).trans c2'
  have HCK := Lib.hid (mcheck_any M A A2 n c m c2 B (w1.alloc (.cells #[S [], .slice none 0 0, .slice none 0 0] 25)) (hM.below (HB2.out.mono hB)) (by have := HB2.out.size; omega))
  have HG := Lib.hid HZ1
  rw [err_ne hw] at HCK
  have HW := Lib.hid hw
  clear hM hB hw c0 c1 c2' HB1 HZ1
  generalize hw2 : w1.alloc (.cells #[S [], .slice none 0 0, .slice none 0 0] 25) = w2 at *
  go_enter Tryd.func8, Tryd.ntmps8
  go_wp2_with fail
  refine HCK.out.mono ?_
  rintro e w3 ⟨rfl, hb3⟩
  have HR3 := Lib.hid ((hb3.block w1.heap.size (by have := (Array.getElem?_eq_some_iff.1 HR2.out).1; exact this)).trans HR2.out)
  have HB3 := Lib.hid (HB2.out.trans (hb3.mono HB2.out.size))
  obtain ⟨d0, d1, d2, f0, f1, f2⟩ := three_atL HR3.out
  clear hb3 HCK hw1 hw2 k0 k1 k2
  go_wp2_with fail
  refine bodyPost_ret (res_cell_tmp rfl _ _ w1.heap.size 25 _ (0, 0) _ rfl (set3L HR3.out) Tryd.underlying25 rfl (by kernel_rfl)) rfl ?_
  refine ⟨by rw [err_ne HW.out]; rfl, ?_⟩
  have hz := HG.out
  exact ((HB3.out.setCell (p := ⟨w1.heap.size, 0, none⟩) (by show w.heap.size ≤ w1.heap.size; omega) _).setCell (p := ⟨w1.heap.size, 1, none⟩) (by show w.heap.size ≤ w1.heap.size; omega) _).setCell (p := ⟨w1.heap.size, 2, none⟩) (by show w.heap.size ≤ w1.heap.size; omega) _

/-! The plain side of the round. -/
/-- The class of the j-th one met. -/
def clM (C : List Int) (met : List Nat) (j : Nat) : Int := gi C (met.getD j 0)
/-- The classes part just what nothing tells apart. -/
def CEq (M : Mc) (C : List Int) : Prop := ∀ i k, i < M.n → k < M.n → (gi C i = gi C k ↔ M.Eqv i k)
theorem clM_ne {M : Mc} {C : List Int} {met : List Nat} (hC : CEq M C) (hM : M.Ok) (h : MetOk M met) : ∀ i j, i < met.length → j < i → clM C met j ≠ clM C met i := by
  intro i j hi hj e
  have := h.eq (j := j) (k := i) (by omega) hi ((hC _ _ (h.at_lt hM j) (h.at_lt hM i)).1 e)
  omega
theorem look_has {M : Mc} {C : List Int} {met : List Nat} (hC : CEq M C) (hM : M.Ok) (h : MetOk M met) {t : Nat} (ht : t < M.n) : Maps.has (mapD (clM C met) met.length) (.int .i64 (gi C t)) = decide (idxE M.eqB met t < met.length) := by
  rw [mapD_has]
  have key : (List.range met.length).any (fun j => decide (clM C met j = gi C t)) = true ↔ idxE M.eqB met t < met.length := by
    simp only [List.any_eq_true, List.mem_range, decide_eq_true_eq]
    constructor
    · rintro ⟨j, hj, e⟩
      have := h.idx hj ((hC _ _ (h.at_lt hM j) ht).1 e)
      omega
    · intro hl
      exact ⟨_, hl, (hC _ _ (h.at_lt hM _) ht).2 (Mc.eqB_iff.1 (idxE_lt hl))⟩
  cases hb : (List.range met.length).any (fun j => decide (clM C met j = gi C t)) with
  | true => exact (decide_eq_true (key.1 hb)).symm
  | false => exact (decide_eq_false fun hl => by rw [key.2 hl] at hb; cases hb).symm
theorem look_at {M : Mc} {C : List Int} {met : List Nat} (hC : CEq M C) (hM : M.Ok) (h : MetOk M met) {t : Nat} (ht : t < M.n) (hl : idxE M.eqB met t < met.length) (z : DataW Unit) :
    (mapD (clM C met) met.length).atKey (.int .i64 (gi C t)) z = .lit (.int .i64 (idxE M.eqB met t : Int)) := by
  have e : gi C t = clM C met (idxE M.eqB met t) := ((hC _ _ (h.at_lt hM _) ht).2 (Mc.eqB_iff.1 (idxE_lt hl))).symm
  rw [e]
  exact mapD_at _ _ (clM_ne hC hM h) _ hl z
theorem mapD_snoc {C : List Int} {met : List Nat} {t : Nat} : mapD (clM C (met ++ [t])) (met ++ [t]).length = (mapD (clM C met) met.length).put (.int .i64 (gi C t)) (.lit (.int .i64 (met.length : Int))) := by
  rw [List.length_append, List.length_singleton]
  show (mapD (clM C (met ++ [t])) met.length).put (.int .i64 (clM C (met ++ [t]) met.length)) _ = _
  have e1 : clM C (met ++ [t]) met.length = gi C t := by
    unfold clM
    rw [List.getD_eq_getElem?_getD]; simp
  rw [e1, mapD_congr (g := clM C met) met.length fun j hj => by unfold clM; rw [getD_app hj]]
theorem classR_rng {M : Mc} (hM : M.Ok) (r : Nat) {i : Nat} (hi : i < M.n) : 0 ≤ gi (M.classR (r + 1)) i ∧ gi (M.classR (r + 1)) i ≤ 1000 := by
  show 0 ≤ gi (M.nextC (M.classR r)) i ∧ gi (M.nextC (M.classR r)) i ≤ 1000
  rw [Mc.nextC_gi hi]
  have h1 : M.atI (M.classR r) i ≤ (M.keysI (M.classR r) i).length := List.idxOf_le_length
  have h2 := keysI_small M (M.classR r) i
  have := hM.small
  omega
theorem lawI : Keyed Tryd.prog 3 := int_keyed Tryd.underlying3
theorem zeroI (w : World) : (zeroValue 3).run Tryd.prog w = .ok (.int .i64 0) w := by kernel_rfl
theorem wf_small {a : Int} (h : 0 ≤ a ∧ a ≤ 1000000) : (Lit.int .i64 a).wf = true := by
  have e1 : IntKind.i64.min = -9223372036854775808 := rfl
  have e2 : IntKind.i64.max = 9223372036854775807 := rfl
  simp only [Lit.wf, e1, e2, Bool.and_eq_true, decide_eq_true_eq]
  omega
end Go.Proofs.YtfglajddibjnjaaDoor
