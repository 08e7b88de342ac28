/- What a card's condition on roman.parts gives a walk: the variable's cells. -/
import Derived.Test.YtehecbfgdpaemaaDoorTopW
import Derived.Test.YtehecbfgdpaemaaDoorRows
import Derived.ChangeSame
import Derived.ChangeVars
import Derived.JoinedOf
import Derived.LaidLaws
import Derived.LaidHandle
import Derived.RowKitTokens
import Derived.Stop.Joined
namespace Go.Proofs.YtehecbfgdpaemaaDoor
open Go.ChangeShapes Go.WideShapes Go.RowKit RomanM

theorem partsG : Tryd.prog.globalNamed "letterbeck/roman.parts" = some 1 := by kernel_rfl
theorem partsT : (Tryd.prog.globals[1]?).map (·.type) = some 56 := by kernel_rfl
theorem cellsA : Tryd.prog.cellsOf 56 = 26 := by kernel_rfl
theorem cellsP : Tryd.prog.cellsOf 55 = 2 := by kernel_rfl
theorem cellsI : Tryd.prog.cellsOf 3 = 1 := by kernel_rfl
theorem cellsS : Tryd.prog.cellsOf 9 = 1 := by kernel_rfl
section
variable {H : Type} {enc : TypeId × Value → H} {P : Program} {w : World} {base : Nat} {sp : Nat → Bool} {held : Bool}
theorem int_of_trod {fuel : Nat} {t : TypeId} {k : IntKind} {cs : List Value} {n : Int} {ps : List MemPlace} (ht : P.underlying t = some (.int k)) (h : DataW.trod enc P w base sp held fuel t cs = some (.lit (.int k n), ps)) : cs = [.int k n] := by
  cases fuel with
  | zero => simp [DataW.trod] at h
  | succ fuel =>
    unfold DataW.trod at h
    simp only [ht] at h
    split at h
    all_goals simp_all
theorem str_of_trod {fuel : Nat} {t : TypeId} {cs : List Value} {l : List UInt8} {ps : List MemPlace} (ht : P.underlying t = some .string) (h : DataW.trod enc P w base sp held fuel t cs = some (.lit (.string l), ps)) : cs = [.string ⟨l.toArray⟩] := by
  cases fuel with
  | zero => simp [DataW.trod] at h
  | succ fuel =>
    unfold DataW.trod at h
    simp only [ht] at h
    split at h
    all_goals simp_all
    obtain ⟨_, rfl, _⟩ := h
    rename_i x
    obtain ⟨⟨d⟩⟩ := x
    rfl
end
theorem mapM_get {α β : Type} {f : α → Option β} : ∀ {l : List α} {xs : List β}, l.mapM f = some xs → xs.length = l.length ∧ ∀ (i : Nat) (h : i < l.length) (h' : i < xs.length), f l[i] = some xs[i] := by
  intro l
  induction l with
  | nil => intro xs h; simp at h; subst h; exact ⟨rfl, fun i h => absurd h (by simp)⟩
  | cons a l ih =>
    intro xs h
    simp only [List.mapM_cons, Option.bind_eq_bind, Option.pure_def, Option.bind_eq_some_iff, Option.some.injEq] at h
    obtain ⟨b, hb, ys, hys, rfl⟩ := h
    obtain ⟨h1, h2⟩ := ih hys
    refine ⟨by simp [h1], fun i hi hi' => ?_⟩
    cases i with
    | zero => exact hb
    | succ i => exact h2 i (by simpa using hi) (by simpa using hi')
set_option maxRecDepth 100000 in
theorem pair_of_trod {H : Type} {enc : TypeId × Value → H} {w : World} {base : Nat} {sp : Nat → Bool} {held : Bool} {fuel : Nat} {cs : List Value} {n : Int} {l : List UInt8} {ps : List MemPlace}
    (h : DataW.trod enc Tryd.prog w base sp held fuel 55 cs = some (.agg [.lit (.int .i64 n), .lit (.string l)], ps)) : cs = [.int .i64 n, S l] := by
  cases fuel with
  | zero => simp [DataW.trod] at h
  | succ fuel =>
    simp only [DataW.trod, Tryd.underlying55, cellsP] at h
    split at h
    · rename_i hl
      obtain ⟨a, b, rfl⟩ : ∃ a b, cs = [a, b] := by
        match cs, hl with
        | [a, b], _ => exact ⟨a, b, rfl⟩
      simp only [Option.map_eq_some_iff, List.mapM_cons, List.mapM_nil, Option.bind_eq_bind, Option.bind_eq_some_iff, Option.pure_def, Option.some.injEq, cellsI, cellsS] at h
      obtain ⟨xs, ⟨y0, h0, _, ⟨y1, h1, _, rfl, rfl⟩, rfl⟩, hx⟩ := h
      simp at hx
      obtain ⟨⟨e1, e2⟩, _⟩ := hx
      obtain ⟨y0, q0⟩ := y0
      obtain ⟨y1, q1⟩ := y1
      simp only at e1 e2
      subst e1 e2
      have r0 := int_of_trod Tryd.underlying3 h0
      have r1 := str_of_trod Tryd.underlying9 h1
      simp at r0 r1
      rw [r0, r1]
    · cases h
theorem pcs_at (i : Nat) (h : i < 13) : pcs.toList[2 * i]? = some (.int .i64 (pn i)) ∧ pcs.toList[2 * i + 1]? = some (S (ps i)) := by
  obtain rfl | rfl | rfl | rfl | rfl | rfl | rfl | rfl | rfl | rfl | rfl | rfl | rfl : i = 0 ∨ i = 1 ∨ i = 2 ∨ i = 3 ∨ i = 4 ∨ i = 5 ∨ i = 6 ∨ i = 7 ∨ i = 8 ∨ i = 9 ∨ i = 10 ∨ i = 11 ∨ i = 12 := by omega
  all_goals exact ⟨rfl, rfl⟩
theorem laid_eq {H : Type} : (Rows.laid_letterbeck_roman_parts : DataW H) = .agg ((List.range 13).map fun i => .agg [.lit (.int .i64 (pn i)), .lit (.string (ps i))]) := rfl
theorem cells_of_laid {W : World} (h : laidMet Tryd.prog [("letterbeck/roman.parts", Rows.laid_letterbeck_roman_parts)] W) : W.var? Tryd.prog "letterbeck/roman.parts" = some pcs := by
  obtain ⟨ps, ⟨g, t, cs, fuel, p, q, hg, ht, hvar, hd, _, _⟩, _⟩ := h
  obtain rfl := Option.some.inj (partsG.symm.trans hg)
  obtain rfl := Option.some.inj (partsT.symm.trans ht)
  rw [hvar]
  congr 1
  rw [laid_eq] at hd
  cases fuel with
  | zero => simp [DataW.trod] at hd
  | succ fuel =>
    simp only [DataW.trod, Tryd.underlying56, cellsA, cellsP] at hd
    split at hd
    · rename_i hl
      obtain ⟨xs, hxs, hx⟩ := Option.map_eq_some_iff.1 hd
      obtain ⟨hxl, hget⟩ := mapM_get hxs
      have hx1 : xs.map (·.1) = (List.range 13).map fun i => DataW.agg [.lit (.int .i64 (pn i)), .lit (.string (RomanM.ps i))] := by
        injection hx with hx _; injection hx with hx
      rw [List.length_range] at hxl
      have hall : ∀ i, i < 13 → (cs.toList.drop (i * 2)).take 2 = [.int .i64 (pn i), S (RomanM.ps i)] := by
        intro i hi
        have hi' : i < xs.length := by omega
        have h1 := hget i (by simpa using hi) hi'
        have h2 : (xs.map (·.1))[i]? = ((List.range 13).map fun i => DataW.agg [.lit (.int .i64 (pn i)), .lit (.string (RomanM.ps i))])[i]? := by rw [hx1]
        rw [List.getElem?_map, List.getElem?_map, List.getElem?_eq_getElem hi', List.getElem?_eq_getElem (by simpa using hi)] at h2
        simp at h2 h1
        exact pair_of_trod (fuel := fuel) (ps := xs[i].2) (h1.trans (congrArg some (Prod.ext h2 rfl)))
      apply Array.ext'
      refine List.ext_getElem? fun j => ?_
      by_cases hj : j < 26
      · have h1 := hall (j / 2) (by omega)
        obtain ⟨p1, p2⟩ := pcs_at (j / 2) (by omega)
        rcases Nat.mod_two_eq_zero_or_one j with h0 | h0
        · have e : j = 2 * (j / 2) := by omega
          have : ((cs.toList.drop (j / 2 * 2)).take 2)[0]? = some (.int .i64 (pn (j / 2))) := by rw [h1]; rfl
          rw [List.getElem?_take_of_lt (by omega), List.getElem?_drop] at this
          rw [show j / 2 * 2 + 0 = j from by omega] at this
          rw [← e] at p1
          rw [this, p1]
        · have e : j = 2 * (j / 2) + 1 := by omega
          have : ((cs.toList.drop (j / 2 * 2)).take 2)[1]? = some (S (RomanM.ps (j / 2))) := by rw [h1]; rfl
          rw [List.getElem?_take_of_lt (by omega), List.getElem?_drop] at this
          rw [show j / 2 * 2 + 1 = j from by omega] at this
          rw [← e] at p2
          rw [this, p2]
      · rw [List.getElem?_eq_none (by omega), List.getElem?_eq_none (by show 26 ≤ j; omega)]
    · cases hd
theorem pg_of_cells {W : World} (h : W.var? Tryd.prog "letterbeck/roman.parts" = some pcs) : PG W := by
  unfold World.var? at h
  rw [partsG] at h
  simp only [Option.bind_some] at h
  split at h
  · rename_i hh; exact ⟨_, _, by rw [hh]; injection h with h; rw [h]⟩
  · cases h
end Go.Proofs.YtehecbfgdpaemaaDoor
