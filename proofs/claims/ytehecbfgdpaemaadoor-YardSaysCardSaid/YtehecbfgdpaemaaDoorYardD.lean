/- What a card's condition on yard.kinds gives a walk: what looking up a byte gives. -/
import Derived.Test.YtehecbfgdpaemaaDoorWords
import Derived.Test.YtehecbfgdpaemaaDoorYardM
import Derived.Test.YtehecbfgdpaemaaDoorRows
import Derived.Maps.Keyed
import Derived.Maps.OwnSet
import Derived.LaidMore
import Derived.ChangeSame
import Derived.ChangeVars
import Derived.JoinedOf
import Derived.LaidLaws
import Derived.LaidHandle
import Derived.RowKitTokens
import Derived.Stop.Joined
namespace Go.Proofs.YtehecbfgdpaemaaDoor
open Go.ChangeShapes Go.WideShapes Go.RowKit YardM
open Go.WideElems (Fit rd rg pl elemAt)

abbrev fkinds1 : FuncId := 75
/-- What is done to two numbers for a sign. -/
def doV (c : UInt8) : Value := if c == 43 then .func (.func 75) #[] #[] else if c == 45 then .func (.func 76) #[] #[] else if c == 42 then .func (.func 77) #[] #[] else if c == 94 then .func (.func 78) #[] #[] else .nilFunc
def kindV (c : UInt8) : Value := .agg #[.int .i64 (rk c : Int), .bool (c == 94), doV c]
/-- Looking up in the map of block b gives so. -/
def LK (b : Nat) (es : Array MapEntry) (clock : Nat) : Prop := ∀ W : World, W.heap[b]? = some (.map es clock) → ∀ (c : UInt8) (ok : Bool),
  (Instr.lookup 51 (.map (some b)) (.int .u8 (c.toNat : Int)) ok).run Tryd.prog W = .ok (if ok then .tuple #[kindV c, .bool (rk c != 0)] else kindV c) W
/-- The condition: the variable reads as the program's text lays it. -/
def KG (w : World) : Prop := ∃ b es clock, w.cell? ⟨0, 0, none⟩ = some (.map (some b)) ∧ w.heap[b]? = some (.map es clock) ∧ LK b es clock
theorem cell_lt {w : World} {p : Addr} {v : Value} (h : w.cell? p = some v) : p.block < w.heap.size := World.block_lt_of_cell? w p h
theorem KG.below {w w' : World} {B : Nat} (h : KG w) (hb : Below B w w') (hB : w.heap.size ≤ B) : KG w' := by
  obtain ⟨b, es, clock, h1, h2, h3⟩ := h
  have l1 : 0 < w.heap.size := cell_lt h1
  have l2 : b < w.heap.size := (Array.getElem?_eq_some_iff.1 h2).1
  exact ⟨b, es, clock, (hb.cell (p := ⟨0, 0, none⟩) (by show 0 < B; omega)).trans h1, (hb.block b (by omega)).trans h2, h3⟩

theorem kindsG : Tryd.prog.globalNamed "letterbeck/yard.kinds" = some 0 := by kernel_rfl
theorem kindsT : (Tryd.prog.globals[0]?).map (·.type) = some 51 := by kernel_rfl
theorem cellsK : Tryd.prog.cellsOf 49 = 3 := by kernel_rfl
theorem cellsI1 : Tryd.prog.cellsOf 3 = 1 := by kernel_rfl
theorem cellsB1 : Tryd.prog.cellsOf 4 = 1 := by kernel_rfl
theorem cellsF1 : Tryd.prog.cellsOf 47 = 1 := by kernel_rfl
theorem zeroK (w : World) : (zeroValue 49).run Tryd.prog w = .ok (.agg #[.int .i64 0, .bool false, .nilFunc]) w := by kernel_rfl
section
variable {H : Type} {enc : TypeId × Value → H} {P : Program} {w : World} {base : Nat} {sp : Nat → Bool} {held : Bool}
theorem kint_of_trod {fuel : Nat} {t : TypeId} {k : IntKind} {cs : List Value} {n : Int} {ps : List MemPlace} (ht : P.underlying t = some (.int k)) (h : DataW.trod enc P w base sp held fuel t cs = some (.lit (.int k n), ps)) : cs = [.int k n] := by
  cases fuel with
  | zero => simp [DataW.trod] at h
  | succ fuel =>
    unfold DataW.trod at h
    simp only [ht] at h
    split at h
    all_goals simp_all
theorem kbool_of_trod {fuel : Nat} {t : TypeId} {cs : List Value} {n : Bool} {ps : List MemPlace} (ht : P.underlying t = some .bool) (h : DataW.trod enc P w base sp held fuel t cs = some (.lit (.bool n), ps)) : cs = [.bool n] := by
  cases fuel with
  | zero => simp [DataW.trod] at h
  | succ fuel =>
    unfold DataW.trod at h
    simp only [ht] at h
    split at h
    all_goals simp_all
end
/-- An element that reads so is so. -/
theorem kind_of_elem {W : World} {n : Nat} {v : Value} {r : Int} {b : Bool} {x : UInt8} {l : List UInt8} {ps : List MemPlace} {f0 : FuncId}
    (hone : ((List.range Tryd.prog.funcs.size).filter fun f => (Tryd.prog.funcs[f]?).any (·.name.toUTF8.data.toList == x :: l)) = [f0])
    (h : elemAt (funcToken Tryd.prog) Tryd.prog W 0 (fun _ => true) true n 49 v = some (.agg [.lit (.int .i64 r), .lit (.bool b), .held (x :: l)], ps)) : v = .agg #[.int .i64 r, .bool b, .func (.func f0) #[] #[]] := by
  unfold elemAt at h
  split at h
  · rename_i hf
    have hv : ∃ cs, v = .agg cs := by
      cases v <;> simp [Value.formed, Tryd.underlying49] at hf
      exact ⟨_, rfl⟩
    obtain ⟨cs, rfl⟩ := hv
    have h' : DataW.trod (funcToken Tryd.prog) Tryd.prog W 0 (fun _ => true) true n 49 cs.toList = some (.agg [.lit (.int .i64 r), .lit (.bool b), .held (x :: l)], ps) := h
    cases n with
    | zero => simp [DataW.trod] at h'
    | succ n =>
      simp only [DataW.trod, Tryd.underlying49, cellsK] at h'
      split at h'
      · rename_i hl
        obtain ⟨a, b', c, hc⟩ : ∃ a b c, cs.toList = [a, b, c] := by
          match hcs : cs.toList, hl with
          | [a, b, c], _ => exact ⟨a, b, c, rfl⟩
        rw [hc] at h'
        simp only [Option.map_eq_some_iff, List.mapM_cons, List.mapM_nil, Option.bind_eq_bind, Option.bind_eq_some_iff, Option.pure_def, Option.some.injEq, cellsI1, cellsB1, cellsF1] at h'
        obtain ⟨xs, ⟨y0, h0, _, ⟨y1, h1, _, ⟨y2, h2, _, rfl, rfl⟩, rfl⟩, rfl⟩, hx⟩ := h'
        simp at hx
        obtain ⟨⟨e1, e2, e3⟩, _⟩ := hx
        obtain ⟨y0, q0⟩ := y0
        obtain ⟨y1, q1⟩ := y1
        obtain ⟨y2, q2⟩ := y2
        simp only at e1 e2 e3
        subst e1 e2 e3
        have r0 := kint_of_trod Tryd.underlying3 h0
        have r1 := kbool_of_trod Tryd.underlying4 h1
        have r2 := func_of_trod (f0 := f0) Tryd.underlying47 hone h2
        simp at r0 r1 r2
        obtain rfl : cs = #[a, b', c] := by cases cs; simp_all
        rw [r0, r1, r2]
      · cases h'
  · cases h
/-- The variable's datum. -/
def kD : DataW (List UInt8) := .map [(.int .u8 42, .agg [.lit (.int .i64 2), .lit (.bool false), .held "letterbeck/yard.kinds$3".toUTF8.data.toList]), (.int .u8 43, .agg [.lit (.int .i64 1), .lit (.bool false), .held "letterbeck/yard.kinds$1".toUTF8.data.toList]),
  (.int .u8 45, .agg [.lit (.int .i64 1), .lit (.bool false), .held "letterbeck/yard.kinds$2".toUTF8.data.toList]), (.int .u8 94, .agg [.lit (.int .i64 3), .lit (.bool true), .held "letterbeck/yard.pow".toUTF8.data.toList])]
theorem kD_at (c : UInt8) (z : DataW (List UInt8)) : kD.atKey (.int .u8 (c.toNat : Int)) z = if c = 42 then .agg [.lit (.int .i64 2), .lit (.bool false), .held "letterbeck/yard.kinds$3".toUTF8.data.toList] else if c = 43 then .agg [.lit (.int .i64 1), .lit (.bool false), .held "letterbeck/yard.kinds$1".toUTF8.data.toList]
    else if c = 45 then .agg [.lit (.int .i64 1), .lit (.bool false), .held "letterbeck/yard.kinds$2".toUTF8.data.toList] else if c = 94 then .agg [.lit (.int .i64 3), .lit (.bool true), .held "letterbeck/yard.pow".toUTF8.data.toList] else z := by
  have e : ∀ d : UInt8, (c = d) ↔ (d.toNat = c.toNat) := fun d => ⟨fun h => by rw [h], fun h => (UInt8.toNat_inj.1 h).symm⟩
  unfold kD DataW.atKey
  simp only [List.find?_cons, List.find?_nil, Lit.sameKey]
  rw [show decide (True ∧ (42 : Int) = (c.toNat : Int)) = decide (c = 42) by rw [Bool.eq_iff_iff]; simp only [decide_eq_true_eq, true_and, e 42]; show _ ↔ (42 : Nat) = _; omega, show decide (True ∧ (43 : Int) = (c.toNat : Int)) = decide (c = 43) by rw [Bool.eq_iff_iff]; simp only [decide_eq_true_eq, true_and, e 43]; show _ ↔ (43 : Nat) = _; omega,
    show decide (True ∧ (45 : Int) = (c.toNat : Int)) = decide (c = 45) by rw [Bool.eq_iff_iff]; simp only [decide_eq_true_eq, true_and, e 45]; show _ ↔ (45 : Nat) = _; omega, show decide (True ∧ (94 : Int) = (c.toNat : Int)) = decide (c = 94) by rw [Bool.eq_iff_iff]; simp only [decide_eq_true_eq, true_and, e 94]; show _ ↔ (94 : Nat) = _; omega]
  by_cases h1 : c = 42 <;> by_cases h2 : c = 43 <;> by_cases h3 : c = 45 <;> by_cases h4 : c = 94 <;> simp [h1, h2, h3, h4]
theorem keyK (c : UInt8) : keyOf Tryd.prog 5 (.int .u8 (c.toNat : Int)) = some (.int .u8 (c.toNat : Int)) := by
  unfold keyOf mapKey
  have : (Lit.int .u8 (c.toNat : Int)).wf = true := by
    have := c.toNat_lt
    have e1 : IntKind.u8.min = 0 := rfl
    have e2 : IntKind.u8.max = 255 := rfl
    simp [Lit.wf, e1, e2]; omega
  simp only [Tryd.underlying5, this]
  simp
theorem kg_of_funcs {W : World} (h : funcsAt Tryd.prog W "letterbeck/yard.kinds" (match (Rows.laid_letterbeck_yard_kinds : DataW Unit) with | .iface _ d => d | d => d)) : KG W := by
  obtain ⟨g, t, cs, fuel, p, hg, ht, hv, hd⟩ := h
  obtain rfl := Option.some.inj (kindsG.symm.trans hg)
  obtain rfl := Option.some.inj (kindsT.symm.trans ht)
  have hd' : DataW.trod (funcToken Tryd.prog) Tryd.prog W 0 (fun _ => true) true fuel 51 cs.toList = some (kD, p) := by
    rw [hd]
    have : (match (Rows.laid_letterbeck_yard_kinds : DataW Unit) with | .iface _ d => d | d => d).funcsOut = kD := by kernel_rfl
    rw [this]
  rcases WideElems.open_map Tryd.underlying51 hd' with ⟨_, h0⟩ | ⟨b, es, clock, n, rfl, hcs, hb, _, F, hx⟩
  · exact absurd (congrArg Prod.fst h0) (by unfold kD; intro h; cases h)
  · have hD : kD = .map ((es.toList.map (rg Tryd.prog 5 (elemAt (funcToken Tryd.prog) Tryd.prog W 0 (fun _ => true) true n 49))).foldr DataW.insert []) := congrArg Prod.fst hx
    refine ⟨b, es, clock, ?_, hb, ?_⟩
    · have := World.var?_cell hg hv 0
      rw [Array.eq_one_of_toList hcs] at this
      simpa using this
    · intro W' hb' c ok
      have K : Maps.Keyed Tryd.prog 5 := Maps.int_keyed Tryd.underlying5
      have hz := zeroK W'
      rcases Maps.fit_look ok K Tryd.underlying51 hz hb' F (keyK c) with ⟨hrun, _, hat⟩ | ⟨e0, y, _, _, hrun, hR, hat, _⟩
      · rw [← hD] at hat
        have h1 := hat (.lit (.bool true))
        rw [kD_at] at h1
        rw [hrun]
        by_cases q1 : c = 42
        · rw [if_pos q1] at h1; cases h1
        rw [if_neg q1] at h1
        by_cases q2 : c = 43
        · rw [if_pos q2] at h1; cases h1
        rw [if_neg q2] at h1
        by_cases q3 : c = 45
        · rw [if_pos q3] at h1; cases h1
        rw [if_neg q3] at h1
        by_cases q4 : c = 94
        · rw [if_pos q4] at h1; cases h1
        have e1 : rk c = 0 := by unfold rk; simp [q1, q2, q3, q4]
        have e2 : doV c = .nilFunc := by unfold doV; simp [q1, q2, q3, q4]
        have e3 : (c == 94) = false := by simpa using q4
        unfold kindV
        rw [e1, e2, e3]
        rfl
      · rw [← hD] at hat
        have h1 := hat (.lit (.bool true))
        have h2 := hat (.lit (.bool false))
        rw [kD_at] at h1 h2
        rw [hrun]
        obtain ⟨y, ps⟩ := y
        have hv : e0.val = kindV c ∧ (rk c != 0) = true := by
          by_cases q1 : c = 42
          · subst q1; rw [if_pos rfl] at h1; simp only at h1; subst h1
            exact ⟨kind_of_elem (f0 := 77) (by kernel_rfl) hR, by decide⟩
          rw [if_neg q1] at h1 h2
          by_cases q2 : c = 43
          · subst q2; rw [if_pos rfl] at h1; simp only at h1; subst h1
            exact ⟨kind_of_elem (f0 := 75) (by kernel_rfl) hR, by decide⟩
          rw [if_neg q2] at h1 h2
          by_cases q3 : c = 45
          · subst q3; rw [if_pos rfl] at h1; simp only at h1; subst h1
            exact ⟨kind_of_elem (f0 := 76) (by kernel_rfl) hR, by decide⟩
          rw [if_neg q3] at h1 h2
          by_cases q4 : c = 94
          · subst q4; rw [if_pos rfl] at h1; simp only at h1; subst h1
            exact ⟨kind_of_elem (f0 := 78) (by kernel_rfl) hR, by decide⟩
          rw [if_neg q4] at h1 h2
          simp only at h1 h2
          rw [← h1] at h2; cases h2
        rw [hv.1, hv.2]
end Go.Proofs.YtehecbfgdpaemaaDoor
