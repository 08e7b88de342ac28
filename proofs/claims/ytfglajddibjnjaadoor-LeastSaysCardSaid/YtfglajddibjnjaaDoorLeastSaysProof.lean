/- LeastSays: for every input the law returns true and leaves its arguments as they were. Condition (the row's, tied to the program's text by the card): the listed variables read as laid. The frame is the kit's proof-skeleton's, turned to slices of structs. -/
import Derived.Test.YtfglajddibjnjaaDoorLsSy
import Derived.Test.YtfglajddibjnjaaDoorRows
import Derived.Test.YtfglajddibjnjaaDoorCards
import Derived.Test.YtfglajddibjnjaaDoorTie
import Derived.SevenTiedAt
import Derived.ChangeVars
import Derived.JoinedOf
import Derived.RowKit
import Derived.RowKitTokens
import Derived.LaidLaws
import Derived.LaidHandle
import Derived.Stop.Joined
import Derived.WalkKit
import Derived.ProofKit
import Derived.OpenShut
import Derived.ShutString
import Derived.ChangeOld
import Derived.Below
import Derived.Deep.Slices
import Derived.Deep.Fields
import Derived.ChangeSame
import Derived.Lib.SmallJoins
import Derived.ChangeSlices
import Derived.SliceStrings
import Derived.Deep.Matrix
import Derived.Deep.Grids
namespace Go.Proofs.YtfglajddibjnjaaDoor.leastSays
open Go.Joins Go.ChangeShapes Go.WideShapes Go.ChangeAt Go.RowKit Go.Deep
open Go.ChangeMaps (open_string shut_string)
set_option linter.unusedVariables false

theorem own : ownKnob Tryd.prog.godebug = none := by kernel_rfl
theorem laidOut : laidOutB Tryd.prog = true := by kernel_rfl
theorem u8_bd {z : Int} (hw : (Lit.int .u8 z).wf = true) : 0 ≤ z ∧ z ≤ 255 := by
  have h1 : IntKind.u8.min ≤ z ∧ z ≤ IntKind.u8.max := by simpa [Lit.wf] using hw
  have e1 : IntKind.u8.min = 0 := rfl
  have e2 : IntKind.u8.max = 255 := rfl
  omega
theorem u8_nat {z : Int} (hw : (Lit.int .u8 z).wf = true) : ((UInt8.ofNat z.toNat).toNat : Int) = z := by
  have := u8_bd hw
  simp; omega

theorem spotless {W : World} {x : Addr} {v : Value} (h : W.cell? x = some v) : x.spot = none := by
  unfold World.cell? at h
  cases hs : x.spot with
  | none => rfl
  | some s => rw [hs] at h; simp at h; split at h <;> simp at h
theorem add_plain {x : Addr} (h : x.spot = none) (k : Nat) : x.add k = ⟨x.block, x.off + k, none⟩ := by
  unfold Addr.add
  split
  · rename_i e; subst e; cases x; simp_all
  · rfl
theorem row_of {W : World} {x : Addr} {len cap : Nat} {zs : List Int} (hl : len ≤ cap) (hz : zs.length = cap) (hc : ∀ j, j < cap → W.cell? (x.add j) = some (.int .i64 (zs.getD j 0))) : Ints W W.heap.size (some x) len (zs.take len) := by
  refine ⟨by rw [List.length_take]; omega, fun hn => ?_⟩
  have h0 := hc 0 (by omega)
  rw [show x.add 0 = x from rfl] at h0
  have hsp := spotless h0
  refine ⟨x.block, x.off, by cases x; simp_all, World.block_lt_of_cell? W x h0, fun j hj => ?_⟩
  have h1 := hc j (by omega)
  rw [add_plain hsp] at h1
  rw [h1, gi_take hj]
  unfold gi
  rw [List.getD_eq_getElem?_getD]
/-- What came in reads as rows of numbers. -/
theorem rws_of {H : Type} {enc : TypeId × Value → H} {W : World} {base : Nat} {held : Bool} {fuel : Nat} {v : Value} {y : DataW H × List MemPlace}
    (h : DataW.trod enc Tryd.prog W base (fun _ => true) held fuel 22 [v] = some y) : ∃ (X : Option Addr) (n c : Nat) (L : List (List Int)), v = .slice X n c ∧ Rws W W.heap.size X n L := by
  rcases open_int_rows Tryd.underlying22 Tryd.underlying44 Tryd.underlying3 (by kernel_rfl) (by kernel_rfl) h with ⟨hcs, _⟩ | ⟨x, len, cap, X, L, C, Z, hcs, _, hl, _, _, hcell⟩
  · obtain rfl : v = .slice none 0 0 := by simpa using hcs
    exact ⟨_, _, _, [], rfl, rfl, fun h => absurd h (by omega)⟩
  · obtain rfl : v = .slice (some x) len cap := by simpa using hcs
    refine ⟨_, _, _, (List.range len).map fun r => (Z r).take (L r), rfl, by simp, fun hn => ?_⟩
    have h0 := (hcell 0 (by omega)).1
    rw [show x.add 0 = x from rfl] at h0
    have hsp := spotless h0
    refine ⟨x.block, x.off, by cases x; simp_all, World.block_lt_of_cell? W x h0, fun j hj => ?_⟩
    obtain ⟨h1, h2, _, h4, _, h6, h7⟩ := hcell j (by omega)
    rw [add_plain hsp] at h1
    have hro : ro ((List.range len).map fun r => (Z r).take (L r)) j = (Z j).take (L j) := by
      unfold ro
      rw [List.getElem?_map, List.getElem?_range hj]; rfl
    refine ⟨_, _, _, h1, ?_⟩
    rw [hro]
    cases hX : X j with
    | none =>
      have := h6 hX
      obtain hL : L j = 0 := by omega
      rw [hL]
      exact ⟨rfl, fun h => absurd h (by omega)⟩
    | some a => exact row_of h2 h4 (h7 a hX).2
/-- What came in reads as a row of truths. -/
theorem bls_of {H : Type} {enc : TypeId × Value → H} {W : World} {base : Nat} {held : Bool} {fuel : Nat} {v : Value} {y : DataW H × List MemPlace}
    (h : DataW.trod enc Tryd.prog W base (fun _ => true) held fuel 23 [v] = some y) : ∃ (X : Option Addr) (n c : Nat) (L : List Bool), v = .slice X n c ∧ Bls W W.heap.size X n L := by
  rcases open_bools Tryd.underlying23 Tryd.underlying4 (by kernel_rfl) h with ⟨hcs, _⟩ | ⟨x, len, cap, B, hcs, _, hl, _, _, hcell⟩
  · obtain rfl : v = .slice none 0 0 := by simpa using hcs
    exact ⟨_, _, _, [], rfl, rfl, fun h => absurd h (by omega)⟩
  · obtain rfl : v = .slice (some x) len cap := by simpa using hcs
    refine ⟨_, _, _, (List.range len).map B, rfl, by simp, fun hn => ?_⟩
    have h0 := hcell 0 (by omega)
    rw [show x.add 0 = x from rfl] at h0
    have hsp := spotless h0
    refine ⟨x.block, x.off, by cases x; simp_all, World.block_lt_of_cell? W x h0, fun j hj => ?_⟩
    have h1 := hcell j (by omega)
    rw [add_plain hsp] at h1
    have hbo : bo ((List.range len).map B) j = B j := by
      unfold bo
      rw [List.getElem?_map, List.getElem?_range hj]; rfl
    rw [hbo]
    exact h1
set_option maxRecDepth 100000 in
/-- What came in reads as a machine. -/
theorem mach_of {H : Type} {enc : TypeId × Value → H} {W : World} {base b0 : Nat} {held : Bool} {r : Reach} {v : Value} {d : DataW H} {ps : List MemPlace} (hv : Value.okWide Tryd.prog W r b0 25 v)
    (h : DataW.Trod enc Tryd.prog W base (fun _ => true) held 25 v d ps) : ∃ (M : Mc) (X : Option Addr) (n c : Nat) (X2 : Option Addr) (m c2 : Nat), v = mcv M.sg X n c X2 m c2 ∧ MacW W W.heap.size X n X2 m M ∧ M.sg.length ≤ 9223372036854775807 := by
  obtain ⟨v0, v1, v2, y0, y1, y2, nn, rfl, rfl, rfl, t0, t1, t2⟩ := open_agg3 Tryd.underlying25 (by kernel_rfl) (by kernel_rfl) hv h
  obtain ⟨s, hs, _, ws⟩ := DataW.trod_string Tryd.underlying9 t0
  obtain rfl : v0 = .string s := by simpa using hs
  obtain ⟨⟨sl⟩⟩ := s
  obtain ⟨X, n, c, L, rfl, hR⟩ := rws_of t1
  obtain ⟨X2, m, c2, T, rfl, hT⟩ := bls_of t2
  refine ⟨⟨sl, L, T⟩, X, n, c, X2, m, c2, rfl, ⟨hR, hT⟩, ?_⟩
  unfold maxLen at ws
  have : sl.length ≤ 2 ^ 63 - 1 := ws
  show sl.length ≤ _
  omega

theorem et : Tryd.prog.globalNamed "errors.errorType" = some 0 := by kernel_rfl
theorem rt : (Tryd.prog.cutTypes.find? (·.1 == "internal/reflectlite.rtype")).map (·.2) = some 79 := by kernel_rfl
theorem oneRow : ((List.range 122).filter fun t => Tryd.prog.rowNamed t [101, 114, 114, 111, 114]) = [31] := by kernel_rfl
theorem tsize : Tryd.prog.types.size = 122 := by kernel_rfl
/-- What the condition gives a walk: the variable's one cell. -/
theorem handle_of_laid {W : World} (h : laidMetH Tryd.prog Rows.leastSaysRow.laid W) : HG W := by
  have h' : laidMet Tryd.prog [] W ∧ handlesMet Tryd.prog [("errors.errorType", Rows.laid_errors_errorType)] W := h
  obtain ⟨name, u, ty, e1, e2, e3, e4, e5⟩ := h'.2 _ (List.mem_cons_self)
  have en : name = [101, 114, 114, 111, 114] := (Option.some.inj e1).symm
  subst en
  obtain rfl := Option.some.inj (rt.symm.trans e2)
  have hm : ty ∈ (List.range 122).filter fun t => Tryd.prog.rowNamed t [101, 114, 114, 111, 114] := List.mem_filter.2 ⟨List.mem_range.2 (by rw [← tsize]; exact e3), e4⟩
  rw [oneRow] at hm
  obtain rfl := List.mem_singleton.1 hm
  have hh : typeHandle Tryd.prog 31 = .pointer (some ⟨2, 31, none⟩) := by kernel_rfl
  rw [hh] at e5
  unfold HG
  simpa using World.var?_cell et e5 0

/-- A world that meets the condition. -/
noncomputable def laidWorld (os : Os) : World :=
  let w0 := World.holding Tryd.prog os ⟨#[], #[], []⟩
  { w0 with heap := w0.heap.modify 0 fun
      | .cells _ t frozen => .cells #[.iface 79 (.agg #[.pointer (some ⟨2, 31, none⟩)])] t frozen
      | o => o }
theorem laidWorld_met (os : Os) (args : Array Value) : laidMetH Tryd.prog Rows.leastSaysRow.laid ((laidWorld os).forCall (fun _ _ => 0) ⟨#[], args, []⟩).memory :=
  laidMetH_of_parts (laidMet_nil _ _) (by kernel_rfl)

set_option maxRecDepth 100000 in
theorem lifted (os : Os) (started : os.Started) (H : Type) (enc : TypeId × Value → H) :
    ReturnsInHanded {} Tryd.checked os 3 .any (fun w args => (Rows.leastSaysSpec.pre enc Tryd.prog Tryd.f3 [] false w args ∧ laidMetH Tryd.prog Rows.leastSaysRow.laid w) ∧ sizedMet enc Tryd.prog Tryd.f3 (OpenSpec.ofChange Rows.leastSaysSpec) false w args) (Rows.leastSaysSpec.post enc Tryd.prog Tryd.f3 false true false false) := by
  refine returnsInHanded_of_change_and (C := Tryd.checked) (X := fun w _ => laidMetH Tryd.prog Rows.leastSaysRow.laid w) (fun _ _ _ hh h => h.of_heap hh) own started (by kernel_rfl) Tryd.func3
    (ChangeSpec.witness_at (enc := enc) (C := Tryd.checked) (os := os) (X := fun w _ => laidMetH Tryd.prog Rows.leastSaysRow.laid w) false (laidWorld os) #[.agg #[.string ByteArray.empty, .slice none 0 0, .slice none 0 0], .agg #[.string ByteArray.empty, .slice none 0 0, .slice none 0 0]] 8 rfl (by kernel_rfl) (by kernel_rfl) (by kernel_rfl) (by kernel_rfl) (by kernel_rfl) (laidWorld_met os _)) ?_
  intro W base args ds gs before hval0 hW _ _ hL _
  have hval : ∀ (j : Nat) t v, Tryd.f3.params[j]? = some t → args[j]? = some v → Value.okWide Tryd.prog W .any base t v := hval0
  have hW' := hW
  obtain ⟨p, q, hA0, hV, rfl, hfz, hnd⟩ := hW
  have hA : DataW.TrodAll enc Tryd.prog W 0 (fun _ => true) true Tryd.f3.params.toList args.toList ds p := hA0
  rw [Tryd.params3] at hA hval
  obtain ⟨v0, vs0, d0, ds0, p0, q0, hargs, rfl, rfl, h0, r0⟩ := trodAll_cons hA
  obtain ⟨v1, vs1, d1, ds1, p1, q1, rfl, rfl, rfl, h1, r1⟩ := trodAll_cons r0
  obtain ⟨rfl, rfl, rfl⟩ := trodAll_nil r1
  obtain rfl : args = #[v0, v1] := by cases args; simp_all
  obtain ⟨rfl, rfl⟩ := trodVars_none hV
  have kk0 := h0
  have lt0 : ∀ x ∈ p0, x.block < W.heap.size := by obtain ⟨m, hm⟩ := kk0; exact DataW.trod_lt m _ _ _ hm
  obtain ⟨M0, X0, n0, k0, Y0, m0, j0, rfl, hM0, hsl0⟩ := mach_of (hval 0 25 v0 rfl rfl) h0
  have kk1 := h1
  have lt1 : ∀ x ∈ p1, x.block < W.heap.size := by obtain ⟨m, hm⟩ := kk1; exact DataW.trod_lt m _ _ _ hm
  obtain ⟨M1, X1, n1, k1, Y1, m1, j1, rfl, hM1, hsl1⟩ := mach_of (hval 1 25 v1 rfl rfl) h1
  clear hA0 hval0
  have hg : HG W := handle_of_laid hL
  have hwalk : Calls Tryd.prog 3 #[mcv M0.sg X0 n0 k0 Y0 m0 j0, mcv M1.sg X1 n1 k1 Y1 m1 j1] W fun e w' => e = .returned (.bool true) ∧ Below W.heap.size W w' := by
    exact leastSays_walk M0 M1 X0 Y0 X1 Y1 n0 k0 m0 j0 n1 k1 m1 j1 W hM0 hM1 hg
  refine hwalk.mono fun e W' ⟨he, bel⟩ => ?_
  subst he
  exact ⟨_, rfl, _, _, _, [], _, [], hW', trodAll_mk1 (shut_bool Tryd.underlying4 _), (trodAll_cons_mk (Below.trod laidOut (by kernel_rfl) (of_decide_eq_true (by kernel_rfl)) kk0 bel lt0) (trodAll_cons_mk (Below.trod laidOut (by kernel_rfl) (of_decide_eq_true (by kernel_rfl)) kk1 bel lt1) trodAll_mk0)), rfl, bel.frame _, fun h => by cases h⟩

theorem over : Rows.leastSaysRow.holds Tryd.pinned (OpenSpec.ofChange Rows.leastSaysSpec) :=
  OpenClaim.holds_of_wide 3 Tryd.f3 rfl rfl rfl rfl rfl rfl rfl ⟨rfl, rfl, rfl, rfl, rfl⟩ rfl rfl rfl rfl rfl (by kernel_rfl) Tryd.func3 (by kernel_rfl)
    (of_decide_eq_true (by kernel_rfl)) (by unfold Func.isWrapper; first | (rw [if_pos (by decide +kernel)]; kernel_rfl) | (rw [if_neg (by decide +kernel)]; exact ⟨rfl, rfl⟩))
    (fun os started H enc _ => lifted os started H enc)

theorem proved : Rows.LeastSaysSaid := over
theorem card : Rows.LeastSaysCardSaid :=
  Claim7.holds_tied_plain_at .later [] [.handle] true (true, "f2fa2f51a6b1a2552ed4d7ef6ef445d614fa5aaaee05f834000c830d9d788fea") true
    proved (fun _ h => by cases h) (by kernel_rfl) (fun _ h => by cases h) leastSays_row_tie rfl ⟨rfl, rfl⟩ (by kernel_rfl) rfl
    (fun f fn hf hfn => by
      obtain rfl : f = 3 := Option.some.inj ((show Tryd.prog.funcNamed "letterbeck/letterbecklaw3.LeastSays" = some 3 by kernel_rfl).symm.trans hf) |>.symm
      obtain rfl : fn = Tryd.f3 := (Option.some.inj (Tryd.func3.symm.trans hfn)).symm
      exact ⟨by kernel_rfl, fun j t ht => by
        have key : (Tryd.f3.params.toList.all fun t => !Tryd.prog.wantsStandIn t) = true := by kernel_rfl
        have hm : t ∈ Tryd.f3.params.toList := Array.mem_toList_iff.2 (Array.mem_of_getElem? ht)
        have := List.all_eq_true.1 key t hm
        have h3 : Tryd.prog.wantsStandIn t = false := by simpa using this
        exact h3⟩)
    (by kernel_rfl)
#print axioms card
end Go.Proofs.YtfglajddibjnjaaDoor.leastSays
