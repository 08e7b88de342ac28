/- GramSplits: for every input the law returns true and leaves its arguments as they were. No condition. The frame is the kit's proof-skeleton's, turned to a slice of structs. -/
import Derived.Test.YtlbiklhndcamhaaGramU
import Derived.Test.YtlbiklhndcamhaaRows
import Derived.WalkKit
import Derived.ProofKit
import Derived.OpenShut
import Derived.ShutString
import Derived.ChangeOld
import Derived.Below
import Derived.Deep.Slices
import Derived.Deep.Fields
import Derived.ChangeSame
namespace Go.Proofs.Ytlbiklhndcamhaa.gramSplits
open Go.ChangeShapes Go.WideShapes Go.ChangeAt Go.RowKit Go.Deep
open Go.ChangeMaps (open_string shut_string)
set_option linter.unusedVariables false

theorem own : ownKnob Try.prog.godebug = none := by kernel_rfl
theorem laidOut : laidOutB Try.prog = true := by kernel_rfl

section
variable {H : Type} {enc : TypeId × Value → H} {P : Program} {w : World} {base : Nat} {spare : Nat → Bool} {held : Bool}
theorem open_slice_fields {t e : TypeId} {fs : Array Field} {fuel : Nat} {cs : List Value} {x : DataW H × List MemPlace} (ht : P.underlying t = some (.slice e)) (he : P.underlying e = some (.struct fs))
    (hone : oneCellFields P fs = true) (hC : P.cellsOf e = fs.size) (h : DataW.trod enc P w base spare held fuel t cs = some x) :
    (cs = [.slice none 0 0]) ∨
    ∃ (a : Addr) (len cap : Nat), cs = [.slice (some a) len cap] ∧ len ≤ cap ∧ cap ≤ maxLen ∧
      ∀ i, i < len → ∀ (j : Nat) (f : Field), fs[j]? = some f → ∃ (v : Value) (n : Nat) (y : DataW H × List MemPlace), w.cell? (a.add (i * fs.size + j)) = some v ∧ DataW.trod enc P w base spare held n f.type [v] = some y := by
  rcases open_slice ht h with h0 | ⟨a, len, cap, m, n, D, Pl, hcs, hb, hl, hm, hmm, hx, hi⟩
  · exact .inl h0.1
  · refine .inr ⟨a, len, cap, hcs, hl, hm, fun i him => ?_⟩
    have him' : i < m := by rw [hmm]; split <;> omega
    obtain ⟨cs', hc, ht'⟩ := hi i him'
    rw [hC] at hc
    obtain ⟨ys, n', hn', hy, hlen, hyl, hf⟩ := DataW.trod_struct he ht'
    obtain ⟨_, hcl, hat⟩ := World.cells?_some hc
    intro j f hj
    obtain ⟨ho, hk⟩ := hone_of hone j f hj
    have hjl : j < fs.size := (Array.getElem?_eq_some_iff.1 hj).1
    have hcell := hat j hjl
    have hv : cs'[j]? = some (cs'[j]'(by omega)) := List.getElem?_eq_getElem (by omega)
    have h1 := hf j f hj
    rw [ho, hk] at h1
    have hone' : (cs'.drop j).take 1 = [cs'[j]'(by omega)] := by
      rw [List.drop_eq_getElem_cons (by omega)]
      rfl
    rw [hone'] at h1
    have hys : ys[j]? = some (ys[j]'(by omega)) := List.getElem?_eq_getElem (by omega)
    refine ⟨_, _, _, ?_, h1.trans hys⟩
    rw [← Go.Deep.add_add, hcell, hv]
end

/-- What came in reads as rules. -/
theorem rules_of {H : Type} {enc : TypeId × Value → H} {W : World} {base : Nat} {spare : Nat → Bool} {held : Bool} {a : Option Addr} {len cap : Nat} {d : DataW H} {ps : List MemPlace}
    (h : DataW.Trod enc Try.prog W base spare held 22 (.slice a len cap) d ps) : ∃ L : List GramM.Ru, Rules W W.heap.size a len L ∧ len ≤ 9223372036854775807 := by
  obtain ⟨fuel, hf⟩ := h
  rcases open_slice_fields Try.underlying22 Try.underlying29 (by kernel_rfl) (by kernel_rfl) hf with hcs | ⟨x, l, c, hcs, hl, hm, hcell⟩
  · simp [Value.cells] at hcs
    obtain ⟨rfl, rfl, rfl⟩ := hcs
    exact ⟨[], ⟨rfl, fun h => absurd h (by omega)⟩, by omega⟩
  · simp [Value.cells] at hcs
    obtain ⟨rfl, rfl, rfl⟩ := hcs
    unfold maxLen at hm
    have key : ∀ i, ∃ r : GramM.Ru, i < len → W.cell? (x.add (i * 2)) = some (.int .u8 (r.nm.toNat : Int)) ∧ W.cell? (x.add (i * 2 + 1)) = some (S r.is) := by
      intro i
      by_cases hi : i < len
      · obtain ⟨v, n, y, h1, h2⟩ := hcell i hi 0 _ rfl
        obtain ⟨v', n', y', h1', h2'⟩ := hcell i hi 1 _ rfl
        obtain ⟨z, hz, _, hw⟩ := DataW.trod_int (k := .u8) Try.underlying5 h2
        obtain ⟨s, hs, _, _⟩ := DataW.trod_string Try.underlying9 h2'
        obtain rfl : v = .int .u8 z := by simpa using hz
        obtain rfl : v' = .string s := by simpa using hs
        have hz2 : 0 ≤ z ∧ z ≤ 255 := by
          have h1 : IntKind.u8.min ≤ z ∧ z ≤ IntKind.u8.max := by simpa [Lit.wf] using hw
          have e1 : IntKind.u8.min = 0 := rfl
          have e2 : IntKind.u8.max = 255 := rfl
          omega
        obtain ⟨⟨sl⟩⟩ := s
        refine ⟨⟨UInt8.ofNat z.toNat, sl⟩, fun _ => ⟨?_, h1'⟩⟩
        rw [show ((UInt8.ofNat z.toNat).toNat : Int) = z by simp; omega]
        exact h1
      · exact ⟨⟨0, []⟩, fun h => absurd h hi⟩
    let f : Nat → GramM.Ru := fun i => (key i).choose
    have hf' : ∀ i, i < len → W.cell? (x.add (i * 2)) = some (.int .u8 ((f i).nm.toNat : Int)) ∧ W.cell? (x.add (i * 2 + 1)) = some (S (f i).is) := fun i hi => (key i).choose_spec hi
    refine ⟨(List.range len).map f, ⟨by simp, fun hn => ?_⟩, by omega⟩
    have h0 := (hf' 0 hn).1
    have hsp : x.spot = none := by
      rw [show x.add (0 * 2) = x from rfl] at h0
      unfold World.cell? at h0
      cases hs : x.spot with
      | none => rfl
      | some s => rw [hs] at h0; simp at h0; split at h0 <;> simp at h0
    have e : ∀ k, x.add k = ⟨x.block, x.off + k, none⟩ := by
      intro k
      unfold Addr.add
      split
      · rename_i e; subst e; cases x; simp_all
      · rfl
    refine ⟨x.block, x.off, by cases x; simp_all, World.block_lt_of_cell? W x (by rw [show x.add (0 * 2) = x from rfl] at h0; exact h0), fun j hj => ?_⟩
    obtain ⟨h1, h2⟩ := hf' j hj
    rw [e] at h1 h2
    have hr : GramM.ru ((List.range len).map f) j = f j := by
      unfold GramM.ru
      rw [List.getElem?_map, List.getElem?_range hj]
      rfl
    rw [hr]
    exact ⟨h1, by rw [Nat.add_assoc]; exact h2⟩

set_option maxRecDepth 100000 in
theorem lifted (os : Os) (started : os.Started) (H : Type) (enc : TypeId × Value → H) :
    ReturnsInHanded {} Try.checked os 3 .any (Rows.gramSplitsSpec.pre6 enc Try.prog Try.f3 Rows.gramSplitsRow.domain false) (Rows.gramSplitsSpec.post enc Try.prog Try.f3 false true false false) := by
  refine returnsInHanded_of_change (C := Try.checked) own started (by kernel_rfl) Try.func3
    (ChangeSpec.witness6 (enc := enc) (C := Try.checked) false ⟨#[], #[.slice none 0 0, .string ByteArray.empty, .int .u8 0], []⟩ 8 (by kernel_rfl) (by kernel_rfl) (by kernel_rfl) (by kernel_rfl)) ?_
  intro W base args ds gs before hval0 hW hcnd _
  have hval : ∀ (j : Nat) t v, Try.f3.params[j]? = some t → args[j]? = some v → Value.okWide Try.prog W .any base t v := hval0
  have hW' := hW
  obtain ⟨p, q, hA0, hV, rfl, hfz, hnd⟩ := hW
  have hA : DataW.TrodAll enc Try.prog W 0 (fun _ => true) true Try.f3.params.toList args.toList ds p := hA0
  rw [Try.params3] at hA hval
  obtain ⟨v0, vs0, d0, ds0, p0, q0, hargs, rfl, rfl, h0, r0⟩ := trodAll_cons hA
  obtain ⟨v1, vs1, d1, ds1, p1, q1, rfl, rfl, rfl, h1, r1⟩ := trodAll_cons r0
  obtain ⟨v2, vs2, d2, ds2, p2, q2, rfl, rfl, rfl, h2, r2⟩ := trodAll_cons r1
  obtain ⟨rfl, rfl, rfl⟩ := trodAll_nil r2
  obtain rfl : args = #[v0, v1, v2] := by cases args; simp_all
  obtain ⟨rfl, rfl⟩ := trodVars_none hV
  obtain ⟨a0, len0, cap0, rfl⟩ := okWide_slice Try.underlying22 (hval 0 22 v0 rfl rfl)
  have k0 := h0
  have lt0 : ∀ x ∈ p0, x.block < W.heap.size := by obtain ⟨m, hm⟩ := k0; exact DataW.trod_lt m _ _ _ hm
  obtain ⟨L, hL, hlen⟩ := rules_of h0
  obtain ⟨a1, rfl, rfl, rfl, w1⟩ := open_string Try.underlying9 (hval 1 9 v1 rfl rfl) h1
  obtain ⟨a2, rfl, rfl, rfl, w2⟩ := open_int Try.underlying5 (hval 2 5 v2 rfl rfl) h2
  clear hA0 hval0
  have w1' := w1
  obtain ⟨⟨sl⟩⟩ := a1
  have hsl : sl.length ≤ 9223372036854775807 := by
    unfold maxLen at w1'
    have : sl.length ≤ 2 ^ 63 - 1 := w1'
    omega
  have hz2 : 0 ≤ a2 ∧ a2 ≤ 255 := by
    have h1 : IntKind.u8.min ≤ a2 ∧ a2 ≤ IntKind.u8.max := by simpa [Lit.wf] using w2
    have e1 : IntKind.u8.min = 0 := rfl
    have e2 : IntKind.u8.max = 255 := rfl
    omega
  have hwalk := gramSplits_walk L sl (UInt8.ofNat a2.toNat) W a0 len0 cap0 hlen hsl hL
  rw [show ((UInt8.ofNat a2.toNat).toNat : Int) = a2 by simp; omega] at hwalk
  refine hwalk.mono fun e W' ⟨he, bel⟩ => ?_
  subst he
  exact ⟨_, rfl, _, _, _, [], _, [], hW', trodAll_mk1 (shut_bool Try.underlying4 _), (trodAll_cons_mk (Below.trod laidOut (by kernel_rfl) (of_decide_eq_true (by kernel_rfl)) k0 bel lt0) (trodAll_cons_mk (shut_string Try.underlying9 w1) (trodAll_cons_mk (shut_int Try.underlying5 w2) trodAll_mk0))), rfl, bel.frame _, fun h => by cases h⟩

theorem over : Rows.gramSplitsRow.holds Try.pinned (OpenSpec.ofChange Rows.gramSplitsSpec) :=
  OpenClaim.holds_of_wide 3 Try.f3 rfl rfl rfl rfl rfl rfl rfl ⟨rfl, rfl, rfl, rfl, rfl⟩ rfl rfl rfl rfl rfl (by kernel_rfl) Try.func3 (by kernel_rfl)
    (of_decide_eq_true (by kernel_rfl)) (by unfold Func.isWrapper; first | (rw [if_pos (by decide +kernel)]; kernel_rfl) | (rw [if_neg (by decide +kernel)]; exact ⟨rfl, rfl⟩))
    (fun os started H enc _ => lifted os started H enc)

theorem proved : Rows.GramSplitsSaid := over
#print axioms proved
end Go.Proofs.Ytlbiklhndcamhaa.gramSplits
