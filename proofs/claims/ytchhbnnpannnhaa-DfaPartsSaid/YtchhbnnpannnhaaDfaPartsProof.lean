/- DfaParts: for every input the law returns true and leaves its arguments as they were. No condition. The frame is the kit's proof-skeleton's, turned to slices of structs. -/
import Derived.Test.YtchhbnnpannnhaaDfV
import Derived.Test.YtchhbnnpannnhaaRows
import Derived.WalkKit
import Derived.ProofKit
import Derived.OpenShut
import Derived.ShutString
import Derived.ChangeOld
import Derived.Below
import Derived.Deep.Slices
import Derived.Deep.Fields
import Derived.ChangeSame
import Derived.Lib.SmallJoins
import Derived.ChangeSlices
import Derived.SliceStrings
import Derived.Deep.Matrix
import Derived.Deep.Grids
import Derived.SizedLaws
namespace Go.Proofs.Ytchhbnnpannnhaa.dfaParts
open Go.Joins Go.ChangeShapes Go.WideShapes Go.ChangeAt Go.RowKit Go.Deep
open Go.ChangeMaps (open_string shut_string)
set_option linter.unusedVariables false

theorem own : ownKnob Try.prog.godebug = none := by kernel_rfl
theorem laidOut : laidOutB Try.prog = true := by kernel_rfl
theorem u8_bd {z : Int} (hw : (Lit.int .u8 z).wf = true) : 0 ≤ z ∧ z ≤ 255 := by
  have h1 : IntKind.u8.min ≤ z ∧ z ≤ IntKind.u8.max := by simpa [Lit.wf] using hw
  have e1 : IntKind.u8.min = 0 := rfl
  have e2 : IntKind.u8.max = 255 := rfl
  omega
theorem u8_nat {z : Int} (hw : (Lit.int .u8 z).wf = true) : ((UInt8.ofNat z.toNat).toNat : Int) = z := by
  have := u8_bd hw
  simp; omega

theorem spotless {W : World} {x : Addr} {v : Value} (h : W.cell? x = some v) : x.spot = none := by
  unfold World.cell? at h
  cases hs : x.spot with
  | none => rfl
  | some s => rw [hs] at h; simp at h; split at h <;> simp at h
theorem add_plain {x : Addr} (h : x.spot = none) (k : Nat) : x.add k = ⟨x.block, x.off + k, none⟩ := by
  unfold Addr.add
  split
  · rename_i e; subst e; cases x; simp_all
  · rfl
theorem row_of {W : World} {x : Addr} {len cap : Nat} {zs : List Int} (hl : len ≤ cap) (hz : zs.length = cap) (hc : ∀ j, j < cap → W.cell? (x.add j) = some (.int .i64 (zs.getD j 0))) : Ints W W.heap.size (some x) len (zs.take len) := by
  refine ⟨by rw [List.length_take]; omega, fun hn => ?_⟩
  have h0 := hc 0 (by omega)
  rw [show x.add 0 = x from rfl] at h0
  have hsp := spotless h0
  refine ⟨x.block, x.off, by cases x; simp_all, World.block_lt_of_cell? W x h0, fun j hj => ?_⟩
  have h1 := hc j (by omega)
  rw [add_plain hsp] at h1
  rw [h1, gi_take hj]
  unfold gi
  rw [List.getD_eq_getElem?_getD]
/-- What came in reads as rows of numbers. -/
theorem rws_of {H : Type} {enc : TypeId × Value → H} {W : World} {base : Nat} {held : Bool} {fuel : Nat} {v : Value} {y : DataW H × List MemPlace}
    (h : DataW.trod enc Try.prog W base (fun _ => true) held fuel 24 [v] = some y) : ∃ (X : Option Addr) (n c : Nat) (L : List (List Int)), v = .slice X n c ∧ Rws W W.heap.size X n L := by
  rcases open_int_rows Try.underlying24 Try.underlying23 Try.underlying3 (by kernel_rfl) (by kernel_rfl) h with ⟨hcs, _⟩ | ⟨x, len, cap, X, L, C, Z, hcs, _, hl, _, _, hcell⟩
  · obtain rfl : v = .slice none 0 0 := by simpa using hcs
    exact ⟨_, _, _, [], rfl, rfl, fun h => absurd h (by omega)⟩
  · obtain rfl : v = .slice (some x) len cap := by simpa using hcs
    refine ⟨_, _, _, (List.range len).map fun r => (Z r).take (L r), rfl, by simp, fun hn => ?_⟩
    have h0 := (hcell 0 (by omega)).1
    rw [show x.add 0 = x from rfl] at h0
    have hsp := spotless h0
    refine ⟨x.block, x.off, by cases x; simp_all, World.block_lt_of_cell? W x h0, fun j hj => ?_⟩
    obtain ⟨h1, h2, _, h4, _, h6, h7⟩ := hcell j (by omega)
    rw [add_plain hsp] at h1
    have hro : ro ((List.range len).map fun r => (Z r).take (L r)) j = (Z j).take (L j) := by
      unfold ro
      rw [List.getElem?_map, List.getElem?_range hj]; rfl
    refine ⟨_, _, _, h1, ?_⟩
    rw [hro]
    cases hX : X j with
    | none =>
      have := h6 hX
      obtain hL : L j = 0 := by omega
      rw [hL]
      exact ⟨rfl, fun h => absurd h (by omega)⟩
    | some a => exact row_of h2 h4 (h7 a hX).2
/-- What came in reads as a row of truths. -/
theorem bls_of {H : Type} {enc : TypeId × Value → H} {W : World} {base : Nat} {held : Bool} {fuel : Nat} {v : Value} {y : DataW H × List MemPlace}
    (h : DataW.trod enc Try.prog W base (fun _ => true) held fuel 37 [v] = some y) : ∃ (X : Option Addr) (n c : Nat) (L : List Bool), v = .slice X n c ∧ Bls W W.heap.size X n L := by
  rcases open_bools Try.underlying37 Try.underlying4 (by kernel_rfl) h with ⟨hcs, _⟩ | ⟨x, len, cap, B, hcs, _, hl, _, _, hcell⟩
  · obtain rfl : v = .slice none 0 0 := by simpa using hcs
    exact ⟨_, _, _, [], rfl, rfl, fun h => absurd h (by omega)⟩
  · obtain rfl : v = .slice (some x) len cap := by simpa using hcs
    refine ⟨_, _, _, (List.range len).map B, rfl, by simp, fun hn => ?_⟩
    have h0 := hcell 0 (by omega)
    rw [show x.add 0 = x from rfl] at h0
    have hsp := spotless h0
    refine ⟨x.block, x.off, by cases x; simp_all, World.block_lt_of_cell? W x h0, fun j hj => ?_⟩
    have h1 := hcell j (by omega)
    rw [add_plain hsp] at h1
    have hbo : bo ((List.range len).map B) j = B j := by
      unfold bo
      rw [List.getElem?_map, List.getElem?_range hj]; rfl
    rw [hbo]
    exact h1
set_option maxRecDepth 100000 in
/-- What came in reads as a machine. -/
theorem mach_of {H : Type} {enc : TypeId × Value → H} {W : World} {base b0 : Nat} {held : Bool} {r : Reach} {v : Value} {d : DataW H} {ps : List MemPlace} (hv : Value.okWide Try.prog W r b0 39 v)
    (h : DataW.Trod enc Try.prog W base (fun _ => true) held 39 v d ps) : ∃ (M : Mc) (X : Option Addr) (n c : Nat) (X2 : Option Addr) (m c2 : Nat), v = mcv M.sg X n c X2 m c2 ∧ MacW W W.heap.size X n X2 m M ∧ M.sg.length ≤ 9223372036854775807 := by
  obtain ⟨v0, v1, v2, y0, y1, y2, nn, rfl, rfl, rfl, t0, t1, t2⟩ := open_agg3 Try.underlying39 (by kernel_rfl) (by kernel_rfl) hv h
  obtain ⟨s, hs, _, ws⟩ := DataW.trod_string Try.underlying9 t0
  obtain rfl : v0 = .string s := by simpa using hs
  obtain ⟨⟨sl⟩⟩ := s
  obtain ⟨X, n, c, L, rfl, hR⟩ := rws_of t1
  obtain ⟨X2, m, c2, T, rfl, hT⟩ := bls_of t2
  refine ⟨⟨sl, L, T⟩, X, n, c, X2, m, c2, rfl, ⟨hR, hT⟩, ?_⟩
  unfold maxLen at ws
  have : sl.length ≤ 2 ^ 63 - 1 := ws
  show sl.length ≤ _
  omega

set_option maxRecDepth 100000 in
theorem lifted (os : Os) (started : os.Started) (H : Type) (enc : TypeId × Value → H) :
    ReturnsInHanded {} Try.checked os 5 .any (Rows.dfaPartsSpec.pre6 enc Try.prog Try.f5 Rows.dfaPartsRow.domain false) (Rows.dfaPartsSpec.post enc Try.prog Try.f5 false true false false) := by
  refine returnsInHanded_of_change_sized (C := Try.checked) own started (by kernel_rfl) Try.func5
    (ChangeSpec.witness6 (enc := enc) (C := Try.checked) false ⟨#[], #[.agg #[.string ByteArray.empty, .slice none 0 0, .slice none 0 0], .string ByteArray.empty, .string ByteArray.empty], []⟩ 8 (by kernel_rfl) (by kernel_rfl) (by kernel_rfl) (by kernel_rfl)) ?_
  intro W base args ds gs before hval0 hW hcnd hsz0 _
  have hval : ∀ (j : Nat) t v, Try.f5.params[j]? = some t → args[j]? = some v → Value.okWide Try.prog W .any base t v := hval0
  have hW' := hW
  obtain ⟨p, q, hA0, hV, rfl, hfz, hnd⟩ := hW
  have hA : DataW.TrodAll enc Try.prog W 0 (fun _ => true) true Try.f5.params.toList args.toList ds p := hA0
  rw [Try.params5] at hA hval
  have hsz : (DataW.weightsEach Try.prog (Try.f5.params.toList ++ Rows.dfaPartsSpec.plain.varTypes Try.prog) (ds ++ gs)).all (· ≤ reachBytes) = true := hsz0
  rw [Try.params5] at hsz
  obtain ⟨v0, vs0, d0, ds0, p0, q0, hargs, rfl, rfl, h0, r0⟩ := trodAll_cons hA
  obtain ⟨v1, vs1, d1, ds1, p1, q1, rfl, rfl, rfl, h1, r1⟩ := trodAll_cons r0
  obtain ⟨v2, vs2, d2, ds2, p2, q2, rfl, rfl, rfl, h2, r2⟩ := trodAll_cons r1
  obtain ⟨rfl, rfl, rfl⟩ := trodAll_nil r2
  obtain rfl : args = #[v0, v1, v2] := by cases args; simp_all
  obtain ⟨rfl, rfl⟩ := trodVars_none hV
  have kk0 := h0
  have lt0 : ∀ x ∈ p0, x.block < W.heap.size := by obtain ⟨m, hm⟩ := kk0; exact DataW.trod_lt m _ _ _ hm
  obtain ⟨M0, X0, n0, k0, Y0, m0, j0, rfl, hM0, hsl0⟩ := mach_of (hval 0 39 v0 rfl rfl) h0
  obtain ⟨a1, rfl, rfl, rfl, w1⟩ := open_string Try.underlying9 (hval 1 9 v1 rfl rfl) h1
  obtain ⟨⟨l1⟩⟩ := a1
  have hl1 : l1.length ≤ 9223372036854775807 := by
    have w' := w1
    unfold maxLen at w'
    have : l1.length ≤ 2 ^ 63 - 1 := w'
    omega
  obtain ⟨a2, rfl, rfl, rfl, w2⟩ := open_string Try.underlying9 (hval 2 9 v2 rfl rfl) h2
  obtain ⟨⟨l2⟩⟩ := a2
  have hl2 : l2.length ≤ 9223372036854775807 := by
    have w' := w2
    unfold maxLen at w'
    have : l2.length ≤ 2 ^ 63 - 1 := w'
    omega
  have hz1 : l1.length ≤ 140737488351232 := by have h := sized_string hsz (j := 1) (t := 9) rfl rfl; unfold reachBytes at h; simpa using h
  have hz2 : l2.length ≤ 140737488351232 := by have h := sized_string hsz (j := 2) (t := 9) rfl rfl; unfold reachBytes at h; simpa using h
  clear hA0 hval0
  have hwalk : Calls Try.prog 5 #[mcv M0.sg X0 n0 k0 Y0 m0 j0, S l1, S l2] W fun e w' => e = .returned (.bool true) ∧ Below W.heap.size W w' := by
    exact dfaParts_walk M0 X0 Y0 n0 k0 m0 j0 W.heap.size l1 l2 W hM0 (Nat.le_refl _) (by omega)
  refine hwalk.mono fun e W' ⟨he, bel⟩ => ?_
  subst he
  exact ⟨_, rfl, _, _, _, [], _, [], hW', trodAll_mk1 (shut_bool Try.underlying4 _), (trodAll_cons_mk (Below.trod laidOut (by kernel_rfl) (of_decide_eq_true (by kernel_rfl)) kk0 bel lt0) (trodAll_cons_mk (shut_string Try.underlying9 w1) (trodAll_cons_mk (shut_string Try.underlying9 w2) trodAll_mk0))), rfl, bel.frame _, fun h => by cases h⟩

theorem over : Rows.dfaPartsRow.holds Try.pinned (OpenSpec.ofChange Rows.dfaPartsSpec) :=
  OpenClaim.holds_of_wide 5 Try.f5 rfl rfl rfl rfl rfl rfl rfl ⟨rfl, rfl, rfl, rfl, rfl⟩ rfl rfl rfl rfl rfl (by kernel_rfl) Try.func5 (by kernel_rfl)
    (of_decide_eq_true (by kernel_rfl)) (by unfold Func.isWrapper; first | (rw [if_pos (by decide +kernel)]; kernel_rfl) | (rw [if_neg (by decide +kernel)]; exact ⟨rfl, rfl⟩))
    (fun os started H enc _ => lifted os started H enc)

theorem proved : Rows.DfaPartsSaid := over
#print axioms proved
end Go.Proofs.Ytchhbnnpannnhaa.dfaParts
