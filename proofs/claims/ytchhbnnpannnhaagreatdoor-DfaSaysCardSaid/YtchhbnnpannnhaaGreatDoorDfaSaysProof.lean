/- DfaSays: for every input the law returns true and leaves its arguments as they were. Condition (the row's, tied to the program's text by the card): the listed variables read as laid. The frame is the kit's proof-skeleton's, turned to slices of structs. -/
import Derived.Test.YtchhbnnpannnhaaGreatDoorDfSy
import Derived.Test.YtchhbnnpannnhaaGreatDoorRows
import Derived.Test.YtchhbnnpannnhaaGreatDoorCards
import Derived.Test.YtchhbnnpannnhaaGreatDoorTie
import Derived.SevenTiedAt
import Derived.ChangeVars
import Derived.JoinedOf
import Derived.RowKit
import Derived.RowKitTokens
import Derived.LaidLaws
import Derived.LaidHandle
import Derived.Stop.Joined
import Derived.WalkKit
import Derived.ProofKit
import Derived.OpenShut
import Derived.ShutString
import Derived.ChangeOld
import Derived.Below
import Derived.Deep.Slices
import Derived.Deep.Fields
import Derived.ChangeSame
import Derived.Lib.SmallJoins
import Derived.ChangeSlices
import Derived.SliceStrings
import Derived.Deep.Matrix
import Derived.Deep.Grids
namespace Go.Proofs.YtchhbnnpannnhaaGreatDoor.dfaSays
open Go.Joins Go.ChangeShapes Go.WideShapes Go.ChangeAt Go.RowKit Go.Deep
open Go.ChangeMaps (open_string shut_string)
set_option linter.unusedVariables false

theorem own : ownKnob Tryz.prog.godebug = none := by kernel_rfl
theorem laidOut : laidOutB Tryz.prog = true := by kernel_rfl
theorem u8_bd {z : Int} (hw : (Lit.int .u8 z).wf = true) : 0 ≤ z ∧ z ≤ 255 := by
  have h1 : IntKind.u8.min ≤ z ∧ z ≤ IntKind.u8.max := by simpa [Lit.wf] using hw
  have e1 : IntKind.u8.min = 0 := rfl
  have e2 : IntKind.u8.max = 255 := rfl
  omega
theorem u8_nat {z : Int} (hw : (Lit.int .u8 z).wf = true) : ((UInt8.ofNat z.toNat).toNat : Int) = z := by
  have := u8_bd hw
  simp; omega

theorem spotless {W : World} {x : Addr} {v : Value} (h : W.cell? x = some v) : x.spot = none := by
  unfold World.cell? at h
  cases hs : x.spot with
  | none => rfl
  | some s => rw [hs] at h; simp at h; split at h <;> simp at h
theorem add_plain {x : Addr} (h : x.spot = none) (k : Nat) : x.add k = ⟨x.block, x.off + k, none⟩ := by
  unfold Addr.add
  split
  · rename_i e; subst e; cases x; simp_all
  · rfl
theorem row_of {W : World} {x : Addr} {len cap : Nat} {zs : List Int} (hl : len ≤ cap) (hz : zs.length = cap) (hc : ∀ j, j < cap → W.cell? (x.add j) = some (.int .i64 (zs.getD j 0))) : Ints W W.heap.size (some x) len (zs.take len) := by
  refine ⟨by rw [List.length_take]; omega, fun hn => ?_⟩
  have h0 := hc 0 (by omega)
  rw [show x.add 0 = x from rfl] at h0
  have hsp := spotless h0
  refine ⟨x.block, x.off, by cases x; simp_all, World.block_lt_of_cell? W x h0, fun j hj => ?_⟩
  have h1 := hc j (by omega)
  rw [add_plain hsp] at h1
  rw [h1, gi_take hj]
  unfold gi
  rw [List.getD_eq_getElem?_getD]
/-- What came in reads as rows of numbers. -/
theorem rws_of {H : Type} {enc : TypeId × Value → H} {W : World} {base : Nat} {held : Bool} {fuel : Nat} {v : Value} {y : DataW H × List MemPlace}
    (h : DataW.trod enc Tryz.prog W base (fun _ => true) held fuel 22 [v] = some y) : ∃ (X : Option Addr) (n c : Nat) (L : List (List Int)), v = .slice X n c ∧ Rws W W.heap.size X n L := by
  rcases open_int_rows Tryz.underlying22 Tryz.underlying44 Tryz.underlying3 (by kernel_rfl) (by kernel_rfl) h with ⟨hcs, _⟩ | ⟨x, len, cap, X, L, C, Z, hcs, _, hl, _, _, hcell⟩
  · obtain rfl : v = .slice none 0 0 := by simpa using hcs
    exact ⟨_, _, _, [], rfl, rfl, fun h => absurd h (by omega)⟩
  · obtain rfl : v = .slice (some x) len cap := by simpa using hcs
    refine ⟨_, _, _, (List.range len).map fun r => (Z r).take (L r), rfl, by simp, fun hn => ?_⟩
    have h0 := (hcell 0 (by omega)).1
    rw [show x.add 0 = x from rfl] at h0
    have hsp := spotless h0
    refine ⟨x.block, x.off, by cases x; simp_all, World.block_lt_of_cell? W x h0, fun j hj => ?_⟩
    obtain ⟨h1, h2, _, h4, _, h6, h7⟩ := hcell j (by omega)
    rw [add_plain hsp] at h1
    have hro : ro ((List.range len).map fun r => (Z r).take (L r)) j = (Z j).take (L j) := by
      unfold ro
      rw [List.getElem?_map, List.getElem?_range hj]; rfl
    refine ⟨_, _, _, h1, ?_⟩
    rw [hro]
    cases hX : X j with
    | none =>
      have := h6 hX
      obtain hL : L j = 0 := by omega
      rw [hL]
      exact ⟨rfl, fun h => absurd h (by omega)⟩
    | some a => exact row_of h2 h4 (h7 a hX).2
/-- What came in reads as a row of truths. -/
theorem bls_of {H : Type} {enc : TypeId × Value → H} {W : World} {base : Nat} {held : Bool} {fuel : Nat} {v : Value} {y : DataW H × List MemPlace}
    (h : DataW.trod enc Tryz.prog W base (fun _ => true) held fuel 23 [v] = some y) : ∃ (X : Option Addr) (n c : Nat) (L : List Bool), v = .slice X n c ∧ Bls W W.heap.size X n L := by
  rcases open_bools Tryz.underlying23 Tryz.underlying4 (by kernel_rfl) h with ⟨hcs, _⟩ | ⟨x, len, cap, B, hcs, _, hl, _, _, hcell⟩
  · obtain rfl : v = .slice none 0 0 := by simpa using hcs
    exact ⟨_, _, _, [], rfl, rfl, fun h => absurd h (by omega)⟩
  · obtain rfl : v = .slice (some x) len cap := by simpa using hcs
    refine ⟨_, _, _, (List.range len).map B, rfl, by simp, fun hn => ?_⟩
    have h0 := hcell 0 (by omega)
    rw [show x.add 0 = x from rfl] at h0
    have hsp := spotless h0
    refine ⟨x.block, x.off, by cases x; simp_all, World.block_lt_of_cell? W x h0, fun j hj => ?_⟩
    have h1 := hcell j (by omega)
    rw [add_plain hsp] at h1
    have hbo : bo ((List.range len).map B) j = B j := by
      unfold bo
      rw [List.getElem?_map, List.getElem?_range hj]; rfl
    rw [hbo]
    exact h1
set_option maxRecDepth 100000 in
/-- What came in reads as a machine. -/
theorem mach_of {H : Type} {enc : TypeId × Value → H} {W : World} {base b0 : Nat} {held : Bool} {r : Reach} {v : Value} {d : DataW H} {ps : List MemPlace} (hv : Value.okWide Tryz.prog W r b0 25 v)
    (h : DataW.Trod enc Tryz.prog W base (fun _ => true) held 25 v d ps) : ∃ (M : Mc) (X : Option Addr) (n c : Nat) (X2 : Option Addr) (m c2 : Nat), v = mcv M.sg X n c X2 m c2 ∧ MacW W W.heap.size X n X2 m M ∧ M.sg.length ≤ 9223372036854775807 := by
  obtain ⟨v0, v1, v2, y0, y1, y2, nn, rfl, rfl, rfl, t0, t1, t2⟩ := open_agg3 Tryz.underlying25 (by kernel_rfl) (by kernel_rfl) hv h
  obtain ⟨s, hs, _, ws⟩ := DataW.trod_string Tryz.underlying9 t0
  obtain rfl : v0 = .string s := by simpa using hs
  obtain ⟨⟨sl⟩⟩ := s
  obtain ⟨X, n, c, L, rfl, hR⟩ := rws_of t1
  obtain ⟨X2, m, c2, T, rfl, hT⟩ := bls_of t2
  refine ⟨⟨sl, L, T⟩, X, n, c, X2, m, c2, rfl, ⟨hR, hT⟩, ?_⟩
  unfold maxLen at ws
  have : sl.length ≤ 2 ^ 63 - 1 := ws
  show sl.length ≤ _
  omega

theorem et : Tryz.prog.globalNamed "errors.errorType" = some 0 := by kernel_rfl
theorem rt : (Tryz.prog.cutTypes.find? (·.1 == "internal/reflectlite.rtype")).map (·.2) = some 128 := by kernel_rfl
theorem oneRow : ((List.range 206).filter fun t => Tryz.prog.rowNamed t [101, 114, 114, 111, 114]) = [29] := by kernel_rfl
theorem tsize : Tryz.prog.types.size = 206 := by kernel_rfl
/-- What the condition gives a walk: the variable's one cell. -/
theorem handle_of_laid {W : World} (h : laidMetH Tryz.prog Rows.dfaSaysRow.laid W) : HG W := by
  have h' : laidMet Tryz.prog [] W ∧ handlesMet Tryz.prog [("errors.errorType", Rows.laid_errors_errorType)] W := h
  obtain ⟨name, u, ty, e1, e2, e3, e4, e5⟩ := h'.2 _ (List.mem_cons_self)
  have en : name = [101, 114, 114, 111, 114] := (Option.some.inj e1).symm
  subst en
  obtain rfl := Option.some.inj (rt.symm.trans e2)
  have hm : ty ∈ (List.range 206).filter fun t => Tryz.prog.rowNamed t [101, 114, 114, 111, 114] := List.mem_filter.2 ⟨List.mem_range.2 (by rw [← tsize]; exact e3), e4⟩
  rw [oneRow] at hm
  obtain rfl := List.mem_singleton.1 hm
  have hh : typeHandle Tryz.prog 29 = .pointer (some ⟨2, 29, none⟩) := by kernel_rfl
  rw [hh] at e5
  unfold HG
  simpa using World.var?_cell et e5 0

/-- A world that meets the condition. -/
noncomputable def laidWorld (os : Os) : World :=
  let w0 := World.holding Tryz.prog os ⟨#[], #[], []⟩
  { w0 with heap := w0.heap.modify 0 fun
      | .cells _ t frozen => .cells #[.iface 128 (.agg #[.pointer (some ⟨2, 29, none⟩)])] t frozen
      | o => o }
theorem laidWorld_met (os : Os) (args : Array Value) : laidMetH Tryz.prog Rows.dfaSaysRow.laid ((laidWorld os).forCall (fun _ _ => 0) ⟨#[], args, []⟩).memory :=
  laidMetH_of_parts (laidMet_nil _ _) (by kernel_rfl)

set_option maxRecDepth 100000 in
theorem lifted (os : Os) (started : os.Started) (H : Type) (enc : TypeId × Value → H) :
    ReturnsInHanded {} Tryz.checked os 3 .any (fun w args => (Rows.dfaSaysSpec.pre enc Tryz.prog Tryz.f3 [] false w args ∧ laidMetH Tryz.prog Rows.dfaSaysRow.laid w) ∧ sizedMet enc Tryz.prog Tryz.f3 (OpenSpec.ofChange Rows.dfaSaysSpec) false w args) (Rows.dfaSaysSpec.post enc Tryz.prog Tryz.f3 false true false false) := by
  refine returnsInHanded_of_change_and (C := Tryz.checked) (X := fun w _ => laidMetH Tryz.prog Rows.dfaSaysRow.laid w) (fun _ _ _ hh h => h.of_heap hh) own started (by kernel_rfl) Tryz.func3
    (ChangeSpec.witness_at (enc := enc) (C := Tryz.checked) (os := os) (X := fun w _ => laidMetH Tryz.prog Rows.dfaSaysRow.laid w) false (laidWorld os) #[.agg #[.string ByteArray.empty, .slice none 0 0, .slice none 0 0], .string ByteArray.empty, .string ByteArray.empty] 8 rfl (by kernel_rfl) (by kernel_rfl) (by kernel_rfl) (by kernel_rfl) (by kernel_rfl) (laidWorld_met os _)) ?_
  intro W base args ds gs before hval0 hW _ _ hL _
  have hval : ∀ (j : Nat) t v, Tryz.f3.params[j]? = some t → args[j]? = some v → Value.okWide Tryz.prog W .any base t v := hval0
  have hW' := hW
  obtain ⟨p, q, hA0, hV, rfl, hfz, hnd⟩ := hW
  have hA : DataW.TrodAll enc Tryz.prog W 0 (fun _ => true) true Tryz.f3.params.toList args.toList ds p := hA0
  rw [Tryz.params3] at hA hval
  obtain ⟨v0, vs0, d0, ds0, p0, q0, hargs, rfl, rfl, h0, r0⟩ := trodAll_cons hA
  obtain ⟨v1, vs1, d1, ds1, p1, q1, rfl, rfl, rfl, h1, r1⟩ := trodAll_cons r0
  obtain ⟨v2, vs2, d2, ds2, p2, q2, rfl, rfl, rfl, h2, r2⟩ := trodAll_cons r1
  obtain ⟨rfl, rfl, rfl⟩ := trodAll_nil r2
  obtain rfl : args = #[v0, v1, v2] := by cases args; simp_all
  obtain ⟨rfl, rfl⟩ := trodVars_none hV
  have kk0 := h0
  have lt0 : ∀ x ∈ p0, x.block < W.heap.size := by obtain ⟨m, hm⟩ := kk0; exact DataW.trod_lt m _ _ _ hm
  obtain ⟨M0, X0, n0, k0, Y0, m0, j0, rfl, hM0, hsl0⟩ := mach_of (hval 0 25 v0 rfl rfl) h0
  obtain ⟨a1, rfl, rfl, rfl, w1⟩ := open_string Tryz.underlying9 (hval 1 9 v1 rfl rfl) h1
  obtain ⟨⟨l1⟩⟩ := a1
  have hl1 : l1.length ≤ 9223372036854775807 := by
    have w' := w1
    unfold maxLen at w'
    have : l1.length ≤ 2 ^ 63 - 1 := w'
    omega
  obtain ⟨a2, rfl, rfl, rfl, w2⟩ := open_string Tryz.underlying9 (hval 2 9 v2 rfl rfl) h2
  obtain ⟨⟨l2⟩⟩ := a2
  have hl2 : l2.length ≤ 9223372036854775807 := by
    have w' := w2
    unfold maxLen at w'
    have : l2.length ≤ 2 ^ 63 - 1 := w'
    omega
  clear hA0 hval0
  have hg : HG W := handle_of_laid hL
  have hwalk : Calls Tryz.prog 3 #[mcv M0.sg X0 n0 k0 Y0 m0 j0, S l1, S l2] W fun e w' => e = .returned (.bool true) ∧ Below W.heap.size W w' := by
    exact dfaSays_walk M0 X0 Y0 n0 k0 m0 j0 l1 l2 W hM0 hl1 hl2 hg
  refine hwalk.mono fun e W' ⟨he, bel⟩ => ?_
  subst he
  exact ⟨_, rfl, _, _, _, [], _, [], hW', trodAll_mk1 (shut_bool Tryz.underlying4 _), (trodAll_cons_mk (Below.trod laidOut (by kernel_rfl) (of_decide_eq_true (by kernel_rfl)) kk0 bel lt0) (trodAll_cons_mk (shut_string Tryz.underlying9 w1) (trodAll_cons_mk (shut_string Tryz.underlying9 w2) trodAll_mk0))), rfl, bel.frame _, fun h => by cases h⟩

theorem over : Rows.dfaSaysRow.holds Tryz.pinned (OpenSpec.ofChange Rows.dfaSaysSpec) :=
  OpenClaim.holds_of_wide 3 Tryz.f3 rfl rfl rfl rfl rfl rfl rfl ⟨rfl, rfl, rfl, rfl, rfl⟩ rfl rfl rfl rfl rfl (by kernel_rfl) Tryz.func3 (by kernel_rfl)
    (of_decide_eq_true (by kernel_rfl)) (by unfold Func.isWrapper; first | (rw [if_pos (by decide +kernel)]; kernel_rfl) | (rw [if_neg (by decide +kernel)]; exact ⟨rfl, rfl⟩))
    (fun os started H enc _ => lifted os started H enc)

theorem proved : Rows.DfaSaysSaid := over
theorem card : Rows.DfaSaysCardSaid :=
  Claim7.holds_tied_plain_at .later [] [.handle] true (true, "3bca0800e913efffb1092d26ccddf04257f4accd9668e7283cf6c07fc330909c") true
    proved (fun _ h => by cases h) (by kernel_rfl) (fun _ h => by cases h) dfaSays_row_tie rfl ⟨rfl, rfl⟩ (by kernel_rfl) rfl
    (fun f fn hf hfn => by
      obtain rfl : f = 3 := Option.some.inj ((show Tryz.prog.funcNamed "letterbeck/letterbecklaw3.DfaSays" = some 3 by kernel_rfl).symm.trans hf) |>.symm
      obtain rfl : fn = Tryz.f3 := (Option.some.inj (Tryz.func3.symm.trans hfn)).symm
      exact ⟨by kernel_rfl, fun j t ht => by
        have key : (Tryz.f3.params.toList.all fun t => !Tryz.prog.wantsStandIn t) = true := by kernel_rfl
        have hm : t ∈ Tryz.f3.params.toList := Array.mem_toList_iff.2 (Array.mem_of_getElem? ht)
        have := List.all_eq_true.1 key t hm
        have h3 : Tryz.prog.wantsStandIn t = false := by simpa using this
        exact h3⟩)
    (by kernel_rfl)
#print axioms card
end Go.Proofs.YtchhbnnpannnhaaGreatDoor.dfaSays
