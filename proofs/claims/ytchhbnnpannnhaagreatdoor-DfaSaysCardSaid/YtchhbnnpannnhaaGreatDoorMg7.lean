/- Texts joined, each with its own conditions. (1) nfa.Match: all places at once. No condition. (2) Machines that are in one state at a time, and the least one, in plain Lean. No condition. (3) Machines in memory: a text, rows of numbers, a row of truths; and package dfa's Check walked. No condition. (4) letterbecksame's Ints and Rows, the document's Has, the law's in. No condition. -/
import Derived.Test.YtchhbnnpannnhaaGreatDoorMg4
import Derived.Test.YtchhbnnpannnhaaGreatDoorMg6
import Derived.Laws.IdiomStrings
import Derived.Lib.Buffer
import Derived.Deep.AppendLies
import Derived.Test.YtchhbnnpannnhaaGreatDoorMg1
import Derived.Test.YtchhbnnpannnhaaGreatDoorMg3
import Derived.IntWalk
import Derived.Deep.RegionWith
import Derived.Deep.DrawnRows
import Derived.Lib.SmallJoins
import Derived.StillTailTactics
import Derived.Deep.LoopGhost
import Derived.BigQuiet
import Derived.Deep.QuietTactic
namespace Go.Proofs.YtchhbnnpannnhaaGreatDoor
open Go.RowKit Go.Maps
set_option linter.unusedVariables false

theorem simN_congr {lv : List UInt8} {pr : Nat → Nat → Bool} {ls : Nat → Bool} : ∀ (s : List UInt8) {now now' : Nat → Bool}, (∀ i, now i = now' i) → simN lv pr ls now s = simN lv pr ls now' s := by
  intro s now now' h
  have e : now = now' := funext h
  rw [e]
theorem sim_last {lv : List UInt8} {pr : Nat → Nat → Bool} {ls : Nat → Bool} {L La : List Nat} {s : List UInt8} {k : Nat} (hk : k + 1 = s.length) (hL : ∀ x ∈ L, x < lv.length) (hA : ∀ x, x ∈ La ↔ x ∈ L ∧ bu lv x = bu s k) :
    simN lv pr ls (fun i => decide (i ∈ L)) (s.drop k) = true ↔ ∃ x ∈ La, ls x = true := by
  have hd : s.drop k = [bu s k] := by rw [List.drop_eq_getElem_cons (by omega), List.drop_eq_nil_of_le (by omega), bu_eq (by omega)]
  rw [hd]
  unfold simN atN
  rw [List.any_eq_true]
  constructor
  · rintro ⟨x, hx, h⟩
    have hx := List.mem_range.1 hx
    simp only [Bool.and_eq_true, decide_eq_true_eq, beq_iff_eq] at h
    refine ⟨x, (hA x).2 ⟨h.1.1, ?_⟩, h.2⟩
    have h2 := h.1.2
    rw [List.getElem?_eq_getElem hx] at h2
    rw [bu_eq hx]; exact Option.some.inj h2
  · rintro ⟨x, hx, h⟩
    obtain ⟨h1, h2⟩ := (hA x).1 hx
    have hxl := hL x h1
    refine ⟨x, List.mem_range.2 hxl, ?_⟩
    simp only [Bool.and_eq_true, decide_eq_true_eq, beq_iff_eq]
    exact ⟨⟨h1, by rw [List.getElem?_eq_getElem hxl, ← h2, bu_eq hxl]⟩, h⟩
theorem sim_next {lv : List UInt8} {pr : Nat → Nat → Bool} {ls : Nat → Bool} {L La Lb : List Nat} {s : List UInt8} {k : Nat} (hk : k + 1 < s.length) (hL : ∀ x ∈ L, x < lv.length) (hA : ∀ x, x ∈ La ↔ x ∈ L ∧ bu lv x = bu s k)
    (hB : ∀ y, y ∈ Lb ↔ ∃ x, pr x y = true ∧ x ∈ La) : simN lv pr ls (fun i => decide (i ∈ L)) (s.drop k) = simN lv pr ls (fun i => decide (i ∈ Lb)) (s.drop (k + 1)) := by
  have hd : s.drop k = bu s k :: bu s (k + 1) :: s.drop (k + 2) := by rw [List.drop_eq_getElem_cons (by omega), List.drop_eq_getElem_cons (by omega), bu_eq (by omega), bu_eq (by omega)]
  have hd2 : s.drop (k + 1) = bu s (k + 1) :: s.drop (k + 2) := by rw [List.drop_eq_getElem_cons (by omega), bu_eq (by omega)]
  rw [hd, hd2]
  conv => lhs; unfold simN
  refine simN_congr _ fun y => ?_
  rw [Bool.eq_iff_iff, decide_eq_true_eq, hB y]
  unfold goN atN
  rw [List.any_eq_true]
  constructor
  · rintro ⟨x, hx, h⟩
    have hx := List.mem_range.1 hx
    simp only [Bool.and_eq_true, decide_eq_true_eq, beq_iff_eq] at h
    refine ⟨x, h.2, (hA x).2 ⟨h.1.1, ?_⟩⟩
    have h2 := h.1.2
    rw [List.getElem?_eq_getElem hx] at h2
    rw [bu_eq hx]; exact Option.some.inj h2
  · rintro ⟨x, h, hx⟩
    obtain ⟨h1, h2⟩ := (hA x).1 hx
    have hxl := hL x h1
    refine ⟨x, List.mem_range.2 hxl, ?_⟩
    simp only [Bool.and_eq_true, decide_eq_true_eq, beq_iff_eq]
    exact ⟨⟨h1, by rw [List.getElem?_eq_getElem hxl, ← h2, bu_eq hxl]⟩, h⟩
/-- What a tree's places say of a text. -/
def simP (t : Pt) (s : List UInt8) : Bool := simN (leaves t) (fun i j => decide ((i, j) ∈ prP t)) (fun i => decide (i ∈ lsP t)) (fun i => decide (i ∈ fsP t)) s
def mtch (t : Pt) (s : List UInt8) : Bool := if s = [] then nul t else simP t s
def matchE (p s : List UInt8) : Int := if parsE p ≠ 0 then parsE p else if 8 < s.length then 4 else 0
def matchV (p s : List UInt8) : Bool := decide (matchE p s = 0) && match par p with
  | some t => mtch t s
  | none => false
theorem sm_lt : ∀ {n : Nat} {t : Pt}, Sm n t → (∀ i, i ∈ fsP t → i < n) ∧ (∀ i, i ∈ lsP t → i < n) ∧ ∀ i j, (i, j) ∈ prP t → i < n ∧ j < n
  | n, .non, h => ⟨fun i hi => (by cases hi), fun i hi => (by cases hi), fun i j hi => (by cases hi)⟩
  | n, .emp, h => ⟨fun i hi => (by cases hi), fun i hi => (by cases hi), fun i j hi => (by cases hi)⟩
  | n, .sgn c k, h => by
    have h : k < n := h
    refine ⟨fun i hi => ?_, fun i hi => ?_, fun i j hi => (by cases hi)⟩
    · rw [List.mem_singleton.1 hi]; exact h
    · rw [List.mem_singleton.1 hi]; exact h
  | n, .alt l r, h => by
    obtain ⟨a1, a2, a3⟩ := sm_lt h.1
    obtain ⟨b1, b2, b3⟩ := sm_lt h.2
    exact ⟨fun i hi => (List.mem_append.1 hi).elim (a1 i) (b1 i), fun i hi => (List.mem_append.1 hi).elim (a2 i) (b2 i), fun i j hi => (List.mem_append.1 hi).elim (a3 i j) (b3 i j)⟩
  | n, .seq l r, h => by
    obtain ⟨a1, a2, a3⟩ := sm_lt h.1
    obtain ⟨b1, b2, b3⟩ := sm_lt h.2
    refine ⟨fun i hi => ?_, fun i hi => ?_, fun i j hi => ?_⟩
    · unfold fsP at hi
      split at hi
      · exact (List.mem_append.1 hi).elim (a1 i) (b1 i)
      · exact a1 i hi
    · unfold lsP at hi
      split at hi
      · exact (List.mem_append.1 hi).elim (b2 i) (a2 i)
      · exact b2 i hi
    · rcases List.mem_append.1 hi with hi | hi
      · exact (List.mem_append.1 hi).elim (a3 i j) (b3 i j)
      · rw [mem_crs] at hi; exact ⟨a2 i hi.1, b1 j hi.2⟩
  | n, .str l, h => by
    obtain ⟨a1, a2, a3⟩ := sm_lt (t := l) h
    refine ⟨a1, a2, fun i j hi => ?_⟩
    rcases List.mem_append.1 hi with hi | hi
    · exact a3 i j hi
    · rw [mem_crs] at hi; exact ⟨a2 i hi.1, a1 j hi.2⟩
theorem four_atJ {w : World} {g : Nat} {a b c d : Value} {t : TypeId} (h : w.heap[g]? = some (.cells #[a, b, c, d] t)) : w.cell? ⟨g, 0, none⟩ = some a ∧ w.cell? ⟨g, 1, none⟩ = some b ∧ w.cell? ⟨g, 2, none⟩ = some c ∧ w.cell? ⟨g, 3, none⟩ = some d ∧ w.frozen? ⟨g, 0, none⟩ = false ∧ w.frozen? ⟨g, 1, none⟩ = false := by
  refine ⟨?_, ?_, ?_, ?_, ?_, ?_⟩
  · rw [cell_of_row w g 0 _ _ (0, 0) h]; rfl
  · rw [cell_of_row w g 1 _ _ (0, 0) h]; rfl
  · rw [cell_of_row w g 2 _ _ (0, 0) h]; rfl
  · rw [cell_of_row w g 3 _ _ (0, 0) h]; rfl
  · simp [World.frozen?, h]
  · simp [World.frozen?, h]
/-- '[]byte(s)'. -/
theorem conv_str (l : List UInt8) (w : World) : ∃ cap w', (convert 9 64 (S l)).run Tryz.prog w = .ok (.slice (some ⟨w.heap.size, 0, none⟩) l.length cap) w' ∧ Below w.heap.size w w' ∧ w'.heap.size = w.heap.size + 1 ∧
    ∀ j, j < l.length → w'.cell? ⟨w.heap.size, j, none⟩ = some (.int .u8 ((bu l j).toNat : Int)) := by
  refine ⟨_, _, run_bytes_of_string w 9 64 5 ⟨l.toArray⟩ Tryz.underlying9 Tryz.underlying64 Tryz.underlying5, ?_, ?_, ?_⟩
  · exact (show Below w.heap.size w w.drew from below_drewN (Below.refl _ _) 1).alloc (Nat.le_refl _) _
  · show (w.heap.push _).size = _; simp
  · intro j hj
    have := World.cell?_alloc_mark w.drew (bytesRow ⟨l.toArray⟩ (grownCap w (ByteArray.mk l.toArray).size 0 5)) 5 ((bytesRow ⟨l.toArray⟩ (grownCap w (ByteArray.mk l.toArray).size 0 5)).size, (bytesRow ⟨l.toArray⟩ (grownCap w (ByteArray.mk l.toArray).size 0 5)).size + 1) j
    refine Eq.trans this ?_
    unfold bytesRow
    rw [Array.getElem?_append_left (by simpa using hj)]
    simp [bu_eq hj, hj]
end Go.Proofs.YtchhbnnpannnhaaGreatDoor

namespace Go.Proofs.YtchhbnnpannnhaaGreatDoor
set_option linter.unusedVariables false

/-- The i-th row, the i-th truth of a list. -/
def ro (l : List (List Int)) (i : Nat) : List Int := l[i]?.getD []
def bo (l : List Bool) (i : Nat) : Bool := l[i]?.getD false
theorem ro_eq {l : List (List Int)} {k : Nat} (h : k < l.length) : ro l k = l[k] := by unfold ro; rw [List.getElem?_eq_getElem h]; rfl
theorem bo_eq {l : List Bool} {k : Nat} (h : k < l.length) : bo l k = l[k] := by unfold bo; rw [List.getElem?_eq_getElem h]; rfl
theorem ro_mem {l : List (List Int)} {k : Nat} (h : k < l.length) : ro l k ∈ l := by rw [ro_eq h]; exact List.getElem_mem h
theorem drop_ro {l : List (List Int)} {k : Nat} (h : k < l.length) : l.drop k = ro l k :: l.drop (k + 1) := by rw [List.drop_eq_getElem_cons h, ro_eq h]
theorem take_succ_ro {l : List (List Int)} {k : Nat} (h : k < l.length) : l.take (k + 1) = l.take k ++ [ro l k] := by rw [List.take_succ_eq_append_getElem h, ro_eq h]
theorem take_succ_bo {l : List Bool} {k : Nat} (h : k < l.length) : l.take (k + 1) = l.take k ++ [bo l k] := by rw [List.take_succ_eq_append_getElem h, bo_eq h]

/-- A machine as it is handed over. -/
structure Mc where
  sg : List UInt8
  nx : List (List Int)
  tk : List Bool
abbrev Mc.n (M : Mc) : Nat := M.nx.length
abbrev Mc.s (M : Mc) : Nat := M.sg.length
/-- Where a sign leads. -/
def Mc.st (M : Mc) (i c : Nat) : Nat := (gi (ro M.nx i) c).toNat
structure Mc.Ok (M : Mc) : Prop where
  pos : 0 < M.n
  small : M.n ≤ 1000
  few : M.s ≤ 12
  tak : M.tk.length = M.n
  rise : ∀ i, i + 1 < M.s → bu M.sg i < bu M.sg (i + 1)
  row : ∀ i, i < M.n → (ro M.nx i).length = M.s
  rng : ∀ i c, i < M.n → c < M.s → 0 ≤ gi (ro M.nx i) c ∧ gi (ro M.nx i) c < M.n
theorem Mc.Ok.st_lt {M : Mc} (h : M.Ok) {i c : Nat} (hi : i < M.n) (hc : c < M.s) : M.st i c < M.n := by
  have := h.rng i c hi hc
  unfold Mc.st; omega
theorem Mc.Ok.st_eq {M : Mc} (h : M.Ok) {i c : Nat} (hi : i < M.n) (hc : c < M.s) : gi (ro M.nx i) c = (M.st i c : Int) := by
  have := h.rng i c hi hc
  unfold Mc.st; omega
/-- Where signs lead, by their places. -/
def Mc.lead (M : Mc) : Nat → List Nat → Nat
  | i, [] => i
  | i, c :: w => M.lead (M.st i c) w
def Mc.Wd (M : Mc) (w : List Nat) : Prop := ∀ c ∈ w, c < M.s
theorem Mc.lead_app (M : Mc) (i : Nat) (u w : List Nat) : M.lead i (u ++ w) = M.lead (M.lead i u) w := by
  induction u generalizing i with
  | nil => rfl
  | cons c u ih => exact ih _
theorem Mc.Ok.lead_lt {M : Mc} (h : M.Ok) {w : List Nat} : ∀ {i : Nat}, i < M.n → M.Wd w → M.lead i w < M.n := by
  induction w with
  | nil => intro i hi _; exact hi
  | cons c w ih => intro i hi hw; exact ih (h.st_lt hi (hw c (List.mem_cons_self ..))) fun d hd => hw d (List.mem_cons_of_mem _ hd)
/-- Nothing tells two states apart. -/
def Mc.Eqv (M : Mc) (i k : Nat) : Prop := ∀ w, M.Wd w → bo M.tk (M.lead i w) = bo M.tk (M.lead k w)
theorem Mc.Eqv.refl (M : Mc) (i : Nat) : M.Eqv i i := fun _ _ => rfl
theorem Mc.Eqv.symm {M : Mc} {i k : Nat} (h : M.Eqv i k) : M.Eqv k i := fun w hw => (h w hw).symm
theorem Mc.Eqv.trans {M : Mc} {i k l : Nat} (h : M.Eqv i k) (h' : M.Eqv k l) : M.Eqv i l := fun w hw => (h w hw).trans (h' w hw)
theorem Mc.Eqv.tk {M : Mc} {i k : Nat} (h : M.Eqv i k) : bo M.tk i = bo M.tk k := h [] (fun _ h => by cases h)
theorem Mc.Eqv.st {M : Mc} {i k c : Nat} (h : M.Eqv i k) (hc : c < M.s) : M.Eqv (M.st i c) (M.st k c) := fun w hw => h (c :: w) fun d hd => by
  rcases List.mem_cons.1 hd with rfl | hd
  · exact hc
  · exact hw d hd
theorem Mc.Eqv.lead {M : Mc} {w : List Nat} : ∀ {i k : Nat}, M.Eqv i k → M.Wd w → M.Eqv (M.lead i w) (M.lead k w) := by
  induction w with
  | nil => intro i k h _; exact h
  | cons c w ih => intro i k h hw; exact ih (h.st (hw c (List.mem_cons_self ..))) fun d hd => hw d (List.mem_cons_of_mem _ hd)
/-- A relation that goes with all signs and parts the taken from the others says that nothing tells apart. -/
theorem Mc.eqv_of {M : Mc} (h : M.Ok) {R : Nat → Nat → Prop} (ht : ∀ i k, i < M.n → k < M.n → R i k → bo M.tk i = bo M.tk k) (hs : ∀ i k c, i < M.n → k < M.n → c < M.s → R i k → R (M.st i c) (M.st k c)) {i k : Nat} (hi : i < M.n) (hk : k < M.n) (hr : R i k) : M.Eqv i k := by
  intro w
  induction w generalizing i k with
  | nil => intro _; exact ht i k hi hk hr
  | cons c w ih =>
    intro hw
    have hc := hw c (List.mem_cons_self ..)
    exact ih (h.st_lt hi hc) (h.st_lt hk hc) (hs i k c hi hk hc hr) fun d hd => hw d (List.mem_cons_of_mem _ hd)

/-! What is wrong with a machine. -/
def rangeB (n : Nat) (row : List Int) : Bool := row.all fun t => decide (0 ≤ t ∧ t < n)
def rowEM (n s : Nat) (row : List Int) : Int := if row.length = s then (if rangeB n row = true then 0 else 1) else 3
def rowsEM (n s : Nat) : List (List Int) → Int
  | [] => 0
  | r :: l => if rowEM n s r = 0 then rowsEM n s l else rowEM n s r
def riseB : List UInt8 → Bool
  | [] => true
  | [_] => true
  | a :: b :: l => decide (a < b) && riseB (b :: l)
def Mc.wrong (M : Mc) : Int := if M.n = 0 then 5 else if 1000 < M.n ∨ 12 < M.s then 4 else if M.tk.length ≠ M.n then 3 else if riseB M.sg = true then rowsEM M.n M.s M.nx else 6
theorem riseB_iff : ∀ l : List UInt8, riseB l = true ↔ ∀ i, i + 1 < l.length → bu l i < bu l (i + 1)
  | [] => by simp [riseB]
  | [_] => by simp [riseB]
  | a :: b :: l => by
    have ih := riseB_iff (b :: l)
    unfold riseB
    rw [Bool.and_eq_true, decide_eq_true_iff, ih]
    constructor
    · rintro ⟨h1, h2⟩ i hi
      cases i with
      | zero => exact h1
      | succ i => exact h2 i (by simpa using hi)
    · intro h
      exact ⟨h 0 (by simp), fun i hi => h (i + 1) (by simpa using hi)⟩
theorem rangeB_iff {n : Nat} {row : List Int} : rangeB n row = true ↔ ∀ c, c < row.length → 0 ≤ gi row c ∧ gi row c < n := by
  unfold rangeB
  rw [List.all_eq_true]
  constructor
  · intro h c hc; simpa using h _ (gi_mem hc)
  · intro h x hx
    obtain ⟨c, hc, rfl⟩ := List.getElem_of_mem hx
    have := h c hc
    rw [gi_eq hc] at this
    simpa using this
theorem rowEM_zero {n s : Nat} {row : List Int} : rowEM n s row = 0 ↔ row.length = s ∧ rangeB n row = true := by
  unfold rowEM
  by_cases h : row.length = s
  · rw [if_pos h]
    by_cases h2 : rangeB n row = true
    · rw [if_pos h2]; exact ⟨fun _ => ⟨h, h2⟩, fun _ => rfl⟩
    · rw [if_neg h2]; exact ⟨fun h => absurd h (by decide), fun h => absurd h.2 h2⟩
  · rw [if_neg h]; exact ⟨fun h => absurd h (by decide), fun h' => absurd h'.1 h⟩
theorem rowsEM_zero {n s : Nat} : ∀ {l : List (List Int)}, rowsEM n s l = 0 ↔ ∀ i, i < l.length → rowEM n s (ro l i) = 0
  | [] => by simp [rowsEM]
  | r :: l => by
    unfold rowsEM
    by_cases h : rowEM n s r = 0
    · rw [if_pos h, rowsEM_zero (l := l)]
      constructor
      · intro h2 i hi
        cases i with
        | zero => exact h
        | succ i => exact h2 i (by simpa using hi)
      · intro h2 i hi; exact h2 (i + 1) (by simpa using hi)
    · rw [if_neg h]
      exact ⟨fun h' => absurd h' h, fun h' => h' 0 (by simp)⟩
theorem Mc.wrong_zero {M : Mc} : M.wrong = 0 ↔ M.Ok := by
  unfold Mc.wrong
  by_cases h1 : M.n = 0
  · rw [if_pos h1]; exact ⟨fun h => absurd h (by decide), fun h => by have := h.pos; omega⟩
  rw [if_neg h1]
  by_cases h2 : 1000 < M.n ∨ 12 < M.s
  · rw [if_pos h2]; exact ⟨fun h => absurd h (by decide), fun h => by have := h.small; have := h.few; omega⟩
  rw [if_neg h2]
  by_cases h3 : M.tk.length ≠ M.n
  · rw [if_pos h3]; exact ⟨fun h => absurd h (by decide), fun h => absurd h.tak h3⟩
  rw [if_neg h3]
  by_cases h4 : riseB M.sg = true
  · rw [if_pos h4, rowsEM_zero]
    constructor
    · intro h
      refine ⟨by omega, by omega, by omega, by omega, (riseB_iff _).1 h4, fun i hi => (rowEM_zero.1 (h i hi)).1, fun i c hi hc => ?_⟩
      obtain ⟨a, b⟩ := rowEM_zero.1 (h i hi)
      exact rangeB_iff.1 b c (by rw [a]; exact hc)
    · intro h i hi
      exact rowEM_zero.2 ⟨h.row i hi, rangeB_iff.2 fun c hc => h.rng i c hi (by rw [← h.row i hi]; exact hc)⟩
  · rw [if_neg h4]; exact ⟨fun h => absurd h (by decide), fun h => absurd ((riseB_iff _).2 h.rise) h4⟩

/-! How many different values a function has below n. -/
def isNew {α : Type} [DecidableEq α] (f : Nat → α) (i : Nat) : Bool := (List.range i).all fun j => decide (f j ≠ f i)
theorem isNew_iff {α : Type} [DecidableEq α] {f : Nat → α} {i : Nat} : isNew f i = true ↔ ∀ j, j < i → f j ≠ f i := by
  unfold isNew; simp [List.all_eq_true]
def cnt {α : Type} [DecidableEq α] (f : Nat → α) : Nat → Nat
  | 0 => 0
  | n + 1 => cnt f n + if isNew f n = true then 1 else 0
theorem cnt_le {α : Type} [DecidableEq α] (f : Nat → α) : ∀ n, cnt f n ≤ n
  | 0 => Nat.le_refl _
  | n + 1 => by have := cnt_le f n; unfold cnt; split <;> omega
theorem cnt_pos {α : Type} [DecidableEq α] (f : Nat → α) : ∀ n, 0 < n → 0 < cnt f n
  | 1, _ => by simp [cnt, isNew]
  | n + 2, _ => by have := cnt_pos f (n + 1) (by omega); unfold cnt; omega
section
variable {α β : Type} [DecidableEq α] [DecidableEq β] {f : Nat → α} {g : Nat → β} {N : Nat}
theorem new_mono (h : ∀ i k, i < N → k < N → g i = g k → f i = f k) {i : Nat} (hi : i < N) (hn : isNew f i = true) : isNew g i = true :=
  isNew_iff.2 fun j hj e => isNew_iff.1 hn j hj (h j i (by omega) hi e)
theorem cnt_mono (h : ∀ i k, i < N → k < N → g i = g k → f i = f k) : ∀ n, n ≤ N → cnt f n ≤ cnt g n
  | 0, _ => Nat.le_refl _
  | n + 1, hn => by
    have ih := cnt_mono h n (by omega)
    unfold cnt
    by_cases h1 : isNew f n = true
    · rw [if_pos h1, if_pos (new_mono h (by omega) h1)]; omega
    · rw [if_neg h1]; omega
theorem cnt_same_new (h : ∀ i k, i < N → k < N → g i = g k → f i = f k) : ∀ n, n ≤ N → cnt f n = cnt g n → ∀ i, i < n → isNew g i = true → isNew f i = true
  | 0, _, _, i, hi => absurd hi (by omega)
  | n + 1, hn, he, i, hi => by
    have hm := cnt_mono h n (by omega)
    unfold cnt at he
    by_cases h1 : isNew f n = true
    · have h2 := new_mono h (by omega) h1
      rw [if_pos h1, if_pos h2] at he
      intro hg
      rcases Nat.lt_or_ge i n with hl | hl
      · exact cnt_same_new h n (by omega) (by omega) i hl hg
      · obtain rfl : i = n := by omega
        exact h1
    · rw [if_neg h1] at he
      by_cases h2 : isNew g n = true
      · rw [if_pos h2] at he; omega
      · rw [if_neg h2] at he
        intro hg
        rcases Nat.lt_or_ge i n with hl | hl
        · exact cnt_same_new h n (by omega) (by omega) i hl hg
        · obtain rfl : i = n := by omega
          exact absurd hg h2
/-- As many values: the same parting. -/
theorem cnt_same (h : ∀ i k, i < N → k < N → g i = g k → f i = f k) (he : cnt f N = cnt g N) : ∀ k i, k < N → i ≤ k → f i = f k → g i = g k := by
  have hnew := cnt_same_new h N (Nat.le_refl _) he
  -- each has the g of the first one with its f
  have first : ∀ k, k < N → ∃ j, j ≤ k ∧ isNew f j = true ∧ f j = f k ∧ g j = g k := by
    intro k
    induction k using Nat.strongRecOn with
    | ind k ih =>
      intro hk
      by_cases h1 : isNew g k = true
      · exact ⟨k, Nat.le_refl _, hnew k hk h1, rfl, rfl⟩
      · have : ∃ j, j < k ∧ g j = g k := by
          apply Classical.byContradiction
          intro hno
          exact h1 (isNew_iff.2 fun j hj e => hno ⟨j, hj, e⟩)
        obtain ⟨j, hj, e⟩ := this
        obtain ⟨j2, h2, h3, h4, h5⟩ := ih j hj (by omega)
        exact ⟨j2, by omega, h3, h4.trans (h j k (by omega) hk e), h5.trans e⟩
  intro k i hk hik hf
  obtain ⟨a, ha, ha1, ha2, ha3⟩ := first i (by omega)
  obtain ⟨b, hb, hb1, hb2, hb3⟩ := first k hk
  have hab : f a = f b := by rw [ha2, hb2, hf]
  have : a = b := by
    rcases Nat.lt_trichotomy a b with hl | hl | hl
    · exact absurd hab (isNew_iff.1 hb1 a hl)
    · exact hl
    · exact absurd hab.symm (isNew_iff.1 ha1 b hl)
  subst this
  rw [← ha3, hb3]
theorem cnt_same' (h : ∀ i k, i < N → k < N → g i = g k → f i = f k) (he : cnt f N = cnt g N) {i k : Nat} (hi : i < N) (hk : k < N) (hf : f i = f k) : g i = g k := by
  rcases Nat.le_total i k with hl | hl
  · exact cnt_same h he k i hk hl hf
  · exact (cnt_same h he i k hi hl hf.symm).symm
end

/-! One round of parting. -/
/-- What tells a state: its class, and those where it leads. -/
def Mc.key (M : Mc) (C : List Int) (i : Nat) : List Int := gi C i :: (ro M.nx i).map fun t => gi C t.toNat
/-- The keys met in the first i states. -/
def Mc.keysI (M : Mc) (C : List Int) : Nat → List (List Int)
  | 0 => []
  | i + 1 => if M.key C i ∈ M.keysI C i then M.keysI C i else M.keysI C i ++ [M.key C i]
def Mc.atI (M : Mc) (C : List Int) (i : Nat) : Nat := (M.keysI C i).idxOf (M.key C i)
def Mc.nextC (M : Mc) (C : List Int) : List Int := (List.range M.n).map fun i => (M.atI C i : Int)
theorem Mc.keysI_mem {M : Mc} {C : List Int} {x : List Int} : ∀ {i}, x ∈ M.keysI C i ↔ ∃ j, j < i ∧ M.key C j = x
  | 0 => by simp [Mc.keysI]
  | i + 1 => by
    unfold Mc.keysI
    have ih := Mc.keysI_mem (M := M) (C := C) (x := x) (i := i)
    split
    · rename_i hm
      rw [ih]
      constructor
      · rintro ⟨j, hj, e⟩; exact ⟨j, by omega, e⟩
      · rintro ⟨j, hj, e⟩
        rcases Nat.lt_or_ge j i with hl | hl
        · exact ⟨j, hl, e⟩
        · obtain rfl : j = i := by omega
          subst e
          exact ih.1 hm
    · rw [List.mem_append, ih, List.mem_singleton]
      constructor
      · rintro (⟨j, hj, e⟩ | rfl)
        · exact ⟨j, by omega, e⟩
        · exact ⟨i, by omega, rfl⟩
      · rintro ⟨j, hj, e⟩
        rcases Nat.lt_or_ge j i with hl | hl
        · exact .inl ⟨j, hl, e⟩
        · obtain rfl : j = i := by omega
          exact .inr e.symm
theorem Mc.keysI_len (M : Mc) (C : List Int) : ∀ i, (M.keysI C i).length = cnt (M.key C) i
  | 0 => rfl
  | i + 1 => by
    unfold Mc.keysI cnt
    have hm := Mc.keysI_mem (M := M) (C := C) (x := M.key C i) (i := i)
    by_cases h : M.key C i ∈ M.keysI C i
    · rw [if_pos h, if_neg, Mc.keysI_len]; · rfl
      intro hn
      obtain ⟨j, hj, e⟩ := hm.1 h
      exact isNew_iff.1 hn j hj e
    · rw [if_neg h, if_pos, List.length_append, Mc.keysI_len]; · rfl
      exact isNew_iff.2 fun j hj e => h (hm.2 ⟨j, hj, e⟩)
theorem Mc.keysI_pre (M : Mc) (C : List Int) : ∀ i k, i ≤ k → ∃ l, M.keysI C k = M.keysI C i ++ l
  | i, 0, h => ⟨[], by obtain rfl : i = 0 := by omega
                       simp⟩
  | i, k + 1, h => by
    rcases Nat.lt_or_ge k i with hl | hl
    · obtain rfl : i = k + 1 := by omega
      exact ⟨[], by simp⟩
    · obtain ⟨l, hl'⟩ := Mc.keysI_pre M C i k hl
      rw [show M.keysI C (k + 1) = if M.key C k ∈ M.keysI C k then M.keysI C k else M.keysI C k ++ [M.key C k] from rfl]
      split
      · exact ⟨l, hl'⟩
      · exact ⟨l ++ [M.key C k], by rw [hl', List.append_assoc]⟩
/-- The place of a state's key does not turn any more. -/
theorem Mc.atI_get {M : Mc} {C : List Int} {i n : Nat} (hi : i < n) : (M.keysI C n)[M.atI C i]? = some (M.key C i) := by
  have h1 : (M.keysI C (i + 1))[M.atI C i]? = some (M.key C i) := by
    unfold Mc.atI
    rw [show M.keysI C (i + 1) = if M.key C i ∈ M.keysI C i then M.keysI C i else M.keysI C i ++ [M.key C i] from rfl]
    split
    · rename_i hm
      have := List.idxOf_lt_length_of_mem hm
      rw [List.getElem?_eq_getElem this, List.getElem_idxOf this]
    · rename_i hm
      rw [List.idxOf_eq_length hm]
      simp
  obtain ⟨l, hl⟩ := M.keysI_pre C (i + 1) n (by omega)
  rw [hl, List.getElem?_append_left (List.getElem?_eq_some_iff.1 h1).1]
  exact h1
theorem Mc.keysI_nodup (M : Mc) (C : List Int) : ∀ i, (M.keysI C i).Nodup
  | 0 => by simp [Mc.keysI]
  | i + 1 => by
    unfold Mc.keysI
    have ih := Mc.keysI_nodup M C i
    split
    · exact ih
    · rename_i hm
      rw [List.nodup_append]
      exact ⟨ih, by simp, fun a ha b hb => by rw [List.mem_singleton.1 hb]; intro e; exact hm (e ▸ ha)⟩
theorem Mc.atI_inj {M : Mc} {C : List Int} {i k : Nat} : M.atI C i = M.atI C k ↔ M.key C i = M.key C k := by
  have h1 := Mc.atI_get (M := M) (C := C) (i := i) (n := max i k + 1) (by omega)
  have h2 := Mc.atI_get (M := M) (C := C) (i := k) (n := max i k + 1) (by omega)
  constructor
  · intro h
    rw [h] at h1
    exact Option.some.inj (h1.symm.trans h2)
  · intro h
    rw [h, ← h2] at h1
    have hl := (List.getElem?_eq_some_iff.1 h2).1
    obtain ⟨hl1, _⟩ := List.getElem?_eq_some_iff.1 (h1.trans h2)
    exact (List.getElem?_inj hl1 (M.keysI_nodup C _)).1 h1
theorem Mc.nextC_len (M : Mc) (C : List Int) : (M.nextC C).length = M.n := by unfold Mc.nextC; simp
theorem Mc.nextC_gi {M : Mc} {C : List Int} {i : Nat} (hi : i < M.n) : gi (M.nextC C) i = (M.atI C i : Int) := by
  unfold Mc.nextC gi
  rw [List.getElem?_map, List.getElem?_range hi]
  rfl
/-- Two states in one class. -/
def sm (C : List Int) (i k : Nat) : Prop := gi C i = gi C k
theorem Mc.sm_next {M : Mc} (hM : M.Ok) {C : List Int} {i k : Nat} (hi : i < M.n) (hk : k < M.n) : sm (M.nextC C) i k ↔ sm C i k ∧ ∀ c, c < M.s → sm C (M.st i c) (M.st k c) := by
  unfold sm
  rw [Mc.nextC_gi hi, Mc.nextC_gi hk]
  constructor
  · intro h
    have h := Mc.atI_inj.1 (by omega : M.atI C i = M.atI C k)
    unfold Mc.key at h
    injection h with h1 h2
    refine ⟨h1, fun c hc => ?_⟩
    have h3 := congrArg (fun l => gi l c) h2
    have e : ∀ j, j < M.n → gi ((ro M.nx j).map fun t => gi C t.toNat) c = gi C (M.st j c) := by
      intro j hj
      have hl : c < (ro M.nx j).length := by rw [hM.row j hj]; exact hc
      unfold Mc.st
      rw [gi_eq (by rw [List.length_map]; exact hl), List.getElem_map, gi_eq hl]
    rw [← e i hi, ← e k hk]; exact h3
  · rintro ⟨h1, h2⟩
    have : M.key C i = M.key C k := by
      unfold Mc.key
      rw [h1]
      congr 1
      refine List.ext_getElem (by rw [List.length_map, List.length_map, hM.row i hi, hM.row k hk]) fun c h3 h4 => ?_
      have hc : c < M.s := by rw [List.length_map, hM.row i hi] at h3; exact h3
      have := h2 c hc
      unfold Mc.st at this
      rw [List.getElem_map, List.getElem_map]
      rw [gi_eq (l := ro M.nx i) (k := c) (by rw [hM.row i hi]; exact hc), gi_eq (l := ro M.nx k) (k := c) (by rw [hM.row k hk]; exact hc)] at this
      exact this
    rw [Mc.atI_inj.2 this]
/-- The classes at first, and behind r rounds. -/
def Mc.class0 (M : Mc) : List Int := (List.range M.n).map fun i => if bo M.tk i = true then 1 else 0
def Mc.classR (M : Mc) : Nat → List Int
  | 0 => M.class0
  | r + 1 => M.nextC (M.classR r)
theorem Mc.class0_gi {M : Mc} {i : Nat} (hi : i < M.n) : gi M.class0 i = if bo M.tk i = true then 1 else 0 := by
  unfold Mc.class0 gi
  rw [List.getElem?_map, List.getElem?_range hi]; rfl
theorem Mc.sm_tk {M : Mc} (hM : M.Ok) {i k : Nat} (hi : i < M.n) (hk : k < M.n) : ∀ r, sm (M.classR r) i k → bo M.tk i = bo M.tk k
  | 0, h => by
    unfold sm Mc.classR at h
    rw [Mc.class0_gi hi, Mc.class0_gi hk] at h
    cases h1 : bo M.tk i <;> cases h2 : bo M.tk k <;> simp_all
  | r + 1, h => Mc.sm_tk hM hi hk r ((Mc.sm_next hM hi hk).1 h).1
theorem Mc.eqv_sm {M : Mc} (hM : M.Ok) : ∀ r {i k : Nat}, i < M.n → k < M.n → M.Eqv i k → sm (M.classR r) i k
  | 0, i, k, hi, hk, h => by
    unfold sm Mc.classR
    rw [Mc.class0_gi hi, Mc.class0_gi hk, h.tk]
  | r + 1, i, k, hi, hk, h => (Mc.sm_next hM hi hk).2 ⟨Mc.eqv_sm hM r hi hk h, fun c hc => Mc.eqv_sm hM r (hM.st_lt hi hc) (hM.st_lt hk hc) (h.st hc)⟩
/-- How many keys a round finds. -/
def Mc.many (M : Mc) (r : Nat) : Nat := cnt (M.key (M.classR r)) M.n
theorem Mc.key_sm {M : Mc} {r i k : Nat} (hi : i < M.n) (hk : k < M.n) : M.key (M.classR r) i = M.key (M.classR r) k ↔ sm (M.classR (r + 1)) i k := by
  show _ ↔ gi (M.nextC (M.classR r)) i = gi (M.nextC (M.classR r)) k
  rw [Mc.nextC_gi hi, Mc.nextC_gi hk, ← Mc.atI_inj]
  omega
theorem Mc.key_finer {M : Mc} (hM : M.Ok) (r : Nat) : ∀ i k, i < M.n → k < M.n → M.key (M.classR (r + 1)) i = M.key (M.classR (r + 1)) k → M.key (M.classR r) i = M.key (M.classR r) k :=
  fun i k hi hk h => (Mc.key_sm hi hk).2 ((Mc.sm_next hM hi hk).1 ((Mc.key_sm hi hk).1 h)).1
theorem Mc.many_mono {M : Mc} (hM : M.Ok) (r : Nat) : M.many r ≤ M.many (r + 1) := cnt_mono (Mc.key_finer hM r) _ (Nat.le_refl _)
/-- As many keys as a round before: nothing tells apart what is in one class. -/
theorem Mc.sm_eqv {M : Mc} (hM : M.Ok) {r : Nat} (h : M.many r = M.many (r + 1)) {i k : Nat} (hi : i < M.n) (hk : k < M.n) : sm (M.classR (r + 2)) i k ↔ M.Eqv i k := by
  have up : ∀ i k, i < M.n → k < M.n → sm (M.classR (r + 1)) i k → sm (M.classR (r + 2)) i k := fun i k hi hk hs =>
    (Mc.key_sm hi hk).1 (cnt_same' (Mc.key_finer hM r) h hi hk ((Mc.key_sm hi hk).2 hs))
  constructor
  · intro hs
    refine Mc.eqv_of hM (R := sm (M.classR (r + 1))) (fun i k hi hk h => Mc.sm_tk hM hi hk _ h) (fun i k c hi hk hc h => ((Mc.sm_next hM hi hk).1 (up i k hi hk h)).2 c hc) hi hk ((Mc.sm_next hM hi hk).1 hs).1
  · exact Mc.eqv_sm hM _ hi hk
end Go.Proofs.YtchhbnnpannnhaaGreatDoor

namespace Go.Proofs.YtchhbnnpannnhaaGreatDoor
open Go.RowKit IntWalk
attribute [local go_sem] byte_at str_app
attribute [local go_sem ↓] Go.wp_at_zero Go.wp_at_succ


/-- A slice that reads as rows of numbers, in blocks below B. -/
def Rws (w : World) (B : Nat) (A : Option Addr) (n : Nat) (L : List (List Int)) : Prop :=
  L.length = n ∧ (0 < n → ∃ b off, A = some ⟨b, off, none⟩ ∧ b < B ∧ ∀ j, j < n → ∃ a m c, w.cell? ⟨b, off + j, none⟩ = some (.slice a m c) ∧ Ints w B a m (ro L j))
/-- A slice that reads as a row of truths. -/
def Bls (w : World) (B : Nat) (A : Option Addr) (n : Nat) (L : List Bool) : Prop :=
  L.length = n ∧ (0 < n → ∃ b off, A = some ⟨b, off, none⟩ ∧ b < B ∧ ∀ j, j < n → w.cell? ⟨b, off + j, none⟩ = some (.bool (bo L j)))
section
variable {w w' : World} {B B' n : Nat} {A : Option Addr} {L : List (List Int)} {T : List Bool}
theorem Rws.at_ (h : Rws w B A n L) {k : Nat} (hk : k < n) : ∃ b off a m c, A = some ⟨b, off, none⟩ ∧ b < B ∧ w.cell? ⟨b, off + k, none⟩ = some (.slice a m c) ∧ Ints w B a m (ro L k) := by
  obtain ⟨b, off, e, hb, hc⟩ := h.2 (by omega)
  obtain ⟨a, m, c, h1, h2⟩ := hc k hk
  exact ⟨b, off, a, m, c, e, hb, h1, h2⟩
theorem Bls.at_ (h : Bls w B A n T) {k : Nat} (hk : k < n) : ∃ b off, A = some ⟨b, off, none⟩ ∧ b < B ∧ w.cell? ⟨b, off + k, none⟩ = some (.bool (bo T k)) := by
  obtain ⟨b, off, e, hb, hc⟩ := h.2 (by omega)
  exact ⟨b, off, e, hb, hc k hk⟩
theorem Rws.keep (h : Rws w B A n L) (hk : ∀ p : Addr, p.block < B → w'.cell? p = w.cell? p) : Rws w' B A n L :=
  ⟨h.1, fun hn => by
    obtain ⟨b, off, e, hb, hc⟩ := h.2 hn
    refine ⟨b, off, e, hb, fun j hj => ?_⟩
    obtain ⟨a, m, c, h1, h2⟩ := hc j hj
    exact ⟨a, m, c, (hk _ hb).trans h1, h2.keep hk⟩⟩
theorem Rws.more (h : Rws w B A n L) (hB : B ≤ B') : Rws w B' A n L :=
  ⟨h.1, fun hn => by
    obtain ⟨b, off, e, hb, hc⟩ := h.2 hn
    refine ⟨b, off, e, by omega, fun j hj => ?_⟩
    obtain ⟨a, m, c, h1, h2⟩ := hc j hj
    exact ⟨a, m, c, h1, h2.more hB⟩⟩
theorem Rws.below (h : Rws w B A n L) (hb : Below B w w') : Rws w' B A n L := h.keep fun _ hp => hb.cell hp
theorem Rws.alloc (h : Rws w B A n L) (hB : B ≤ w.heap.size) (o : Obj) : Rws (w.alloc o) B A n L := h.keep fun p hp => World.cell?_alloc_lt w o p (by omega)
theorem Bls.keep (h : Bls w B A n T) (hk : ∀ p : Addr, p.block < B → w'.cell? p = w.cell? p) : Bls w' B A n T :=
  ⟨h.1, fun hn => by
    obtain ⟨b, off, e, hb, hc⟩ := h.2 hn
    exact ⟨b, off, e, hb, fun j hj => (hk _ hb).trans (hc j hj)⟩⟩
theorem Bls.more (h : Bls w B A n T) (hB : B ≤ B') : Bls w B' A n T :=
  ⟨h.1, fun hn => by
    obtain ⟨b, off, e, hb, hc⟩ := h.2 hn
    exact ⟨b, off, e, by omega, hc⟩⟩
theorem Bls.below (h : Bls w B A n T) (hb : Below B w w') : Bls w' B A n T := h.keep fun _ hp => hb.cell hp
theorem Bls.alloc (h : Bls w B A n T) (hB : B ≤ w.heap.size) (o : Obj) : Bls (w.alloc o) B A n T := h.keep fun p hp => World.cell?_alloc_lt w o p (by omega)
end
/-- A machine's value, and what it reads as. -/
abbrev mcv (sg : List UInt8) (A : Option Addr) (n c : Nat) (A2 : Option Addr) (m c2 : Nat) : Value := .agg #[S sg, .slice A n c, .slice A2 m c2]
structure MacW (w : World) (B : Nat) (A : Option Addr) (n : Nat) (A2 : Option Addr) (m : Nat) (M : Mc) : Prop where
  rows : Rws w B A n M.nx
  tks : Bls w B A2 m M.tk
theorem MacW.below {w w' : World} {B n m : Nat} {A A2 : Option Addr} {M : Mc} (h : MacW w B A n A2 m M) (hb : Below B w w') : MacW w' B A n A2 m M := ⟨h.rows.below hb, h.tks.below hb⟩
theorem MacW.more {w : World} {B B' n m : Nat} {A A2 : Option Addr} {M : Mc} (h : MacW w B A n A2 m M) (hB : B ≤ B') : MacW w B' A n A2 m M := ⟨h.rows.more hB, h.tks.more hB⟩
theorem MacW.n_eq {w : World} {B n m : Nat} {A A2 : Option Addr} {M : Mc} (h : MacW w B A n A2 m M) : M.n = n := h.rows.1
theorem MacW.m_eq {w : World} {B n m : Nat} {A A2 : Option Addr} {M : Mc} (h : MacW w B A n A2 m M) : M.tk.length = m := h.tks.1

theorem within_any (n lo hi : Int) (w : World) :
    Calls Tryz.prog 15 #[.int .i64 n, .int .i64 lo, .int .i64 hi] w fun e w' => e = .returned (.bool (decide (lo ≤ n ∧ n ≤ hi))) ∧ w = w' := by
  by_cases h1 : lo ≤ n
  · by_cases h2 : n ≤ hi
    all_goals
      go_enter Tryz.func15, Tryz.ntmps15
      go_wp2
      go_ret
      exact ⟨by simp [h1, h2], rfl⟩
  · go_enter Tryz.func15, Tryz.ntmps15
    go_wp2
    go_ret
    exact ⟨ret_bool (by simp [show ¬ lo ≤ n from by omega]), rfl⟩
theorem mac_cells (w : World) (sg : List UInt8) (A : Option Addr) (n c : Nat) (A2 : Option Addr) (m c2 : Nat) (t : TypeId) : (w.alloc (.cells #[S sg, .slice A n c, .slice A2 m c2] t)).cell? ⟨w.heap.size, 0, none⟩ = some (S sg) ∧ (w.alloc (.cells #[S sg, .slice A n c, .slice A2 m c2] t)).cell? ⟨w.heap.size, 1, none⟩ = some (.slice A n c) ∧ (w.alloc (.cells #[S sg, .slice A n c, .slice A2 m c2] t)).cell? ⟨w.heap.size, 2, none⟩ = some (.slice A2 m c2) :=
  ⟨cell_of_row _ _ 0 _ t (0, 0) (heap_alloc_new w _), cell_of_row _ _ 1 _ t (0, 0) (heap_alloc_new w _), cell_of_row _ _ 2 _ t (0, 0) (heap_alloc_new w _)⟩
theorem wrong_5 {M : Mc} (h : M.n = 0) : M.wrong = 5 := by unfold Mc.wrong; rw [if_pos h]
theorem wrong_4 {M : Mc} (h0 : M.n ≠ 0) (h : 1000 < M.n ∨ 12 < M.s) : M.wrong = 4 := by unfold Mc.wrong; rw [if_neg h0, if_pos h]
theorem wrong_3 {M : Mc} (h0 : M.n ≠ 0) (h : ¬ (1000 < M.n ∨ 12 < M.s)) (h3 : M.tk.length ≠ M.n) : M.wrong = 3 := by unfold Mc.wrong; rw [if_neg h0, if_neg h, if_pos h3]
theorem wrong_6 {M : Mc} (h0 : M.n ≠ 0) (h : ¬ (1000 < M.n ∨ 12 < M.s)) (h3 : ¬ M.tk.length ≠ M.n) (h4 : ¬ riseB M.sg = true) : M.wrong = 6 := by unfold Mc.wrong; rw [if_neg h0, if_neg h, if_neg h3, if_neg h4]
theorem wrong_r {M : Mc} (h0 : M.n ≠ 0) (h : ¬ (1000 < M.n ∨ 12 < M.s)) (h3 : ¬ M.tk.length ≠ M.n) (h4 : riseB M.sg = true) : M.wrong = rowsEM M.n M.s M.nx := by unfold Mc.wrong; rw [if_neg h0, if_neg h, if_neg h3, if_pos h4]
theorem rowsE_cons {n s : Nat} {r : List Int} {l : List (List Int)} : rowsEM n s (r :: l) = if rowEM n s r = 0 then rowsEM n s l else rowEM n s r := rfl

set_option maxRecDepth 100000 in
set_option maxHeartbeats 4000000 in
theorem mcheck_any (M : Mc) (A A2 : Option Addr) (n c m c2 B : Nat) (w : World) (hM : MacW w B A n A2 m M) (hB : B ≤ w.heap.size) :
    Calls Tryz.prog 6 #[mcv M.sg A n c A2 m c2] w fun e w' => e = .returned (errV M.wrong) ∧ Below w.heap.size w w' := by
  have hn := hM.n_eq
  have hm := hM.m_eq
  obtain ⟨c0, c1, c2'⟩ := mac_cells w M.sg A n c A2 m c2 25
  have HB := Lib.hid ((Below.refl w.heap.size w).alloc (Nat.le_refl _) (.cells #[S M.sg, .slice A n c, .slice A2 m c2] 25))
  have HR := Lib.hid (hM.rows.alloc hB (.cells #[S M.sg, .slice A n c, .slice A2 m c2] 25))
  clear hM hB
  by_cases h0 : M.n = 0
  · have HE := Lib.hid (wrong_5 h0)
    obtain rfl : n = 0 := by omega
    clear h0 HR hn hm
    go_enter Tryz.func6, Tryz.ntmps6
    go_wp2_with fail
    go_ret
    exact ⟨by rw [HE.out]; rfl, HB.out⟩
  by_cases h1 : 1000 < M.n ∨ 12 < M.s
  · have HE := Lib.hid (wrong_4 h0 h1)
    have e0 : (n : Int) ≠ 0 := by omega
    have e0' : n ≠ 0 := by omega
    by_cases h2 : 1000 < n
    · have e1 : (1000 : Int) < (n : Int) := by omega
      clear h0 h1 hn hm HR
      go_enter Tryz.func6, Tryz.ntmps6
      go_wp2_with fail
      go_ret
      exact ⟨by rw [HE.out]; rfl, HB.out⟩
    · have e1 : ¬ (1000 : Int) < (n : Int) := by omega
      have e2 : (12 : Int) < (M.sg.length : Int) := by have : M.s = M.sg.length := rfl; omega
      clear h0 h1 hn hm HR
      go_enter Tryz.func6, Tryz.ntmps6
      go_wp2_with fail
      go_ret
      exact ⟨by rw [HE.out]; rfl, HB.out⟩
  by_cases h3 : M.tk.length ≠ M.n
  · have HE := Lib.hid (wrong_3 h0 h1 h3)
    have q0 : (n : Int) ≠ 0 := by omega
    have q0' : n ≠ 0 := by omega
    have q1 : ¬ (1000 : Int) < (n : Int) := by omega
    have q2 : ¬ (12 : Int) < (M.sg.length : Int) := by have : M.s = M.sg.length := rfl; omega
    have q3 : ((m : Int) != (n : Int)) = true := by simp; omega
    clear h0 h1 h3 hn hm HR
    go_enter Tryz.func6, Tryz.ntmps6
    go_wp2_with fail
    go_ret
    exact ⟨by rw [HE.out]; rfl, HB.out⟩
  have hmn : m = n := by omega
  subst hmn
  have q0 : (m : Int) ≠ 0 := by omega
  have q0' : m ≠ 0 := by omega
  have q1 : ¬ (1000 : Int) < (m : Int) := by omega
  have q2 : ¬ (12 : Int) < (M.sg.length : Int) := by have : M.s = M.sg.length := rfl; omega
  have q3 : ((m : Int) != (m : Int)) = false := by simp
  have hs12 : M.sg.length ≤ 12 := by have : M.s = M.sg.length := rfl; omega
  have hm1000 : m ≤ 1000 := by omega
  have H6 := Lib.hid (fun h4 => wrong_6 (M := M) h0 h1 h3 h4)
  have HRS := Lib.hid (fun h4 => wrong_r (M := M) h0 h1 h3 h4)
  have HN := Lib.hid hn
  clear h0 h1 h3 hn hm
  generalize hw1 : w.alloc (.cells #[S M.sg, .slice A m c, .slice A2 m c2] 25) = w1 at *
  go_enter Tryz.func6, Tryz.ntmps6
  go_wp2_with fail
  go_loopg [3] M.sg.length (fun f iv wr => ∃ k q : Nat, k + f = M.sg.length ∧ iv = .int .i64 ((k : Int) + 1) ∧ wr = w1.drewN q ∧ Hid (∀ i, i < k → bu M.sg i < bu M.sg (i + 1)))
  case atStart => exact ⟨0, 0, by omega, rfl, rfl, Lib.hid fun i h => absurd h (by omega)⟩
  case round =>
    obtain ⟨k, q, hkf, rfl, rfl, HP⟩ := hrel
    by_cases hlt : k + 1 < M.sg.length
    · obtain ⟨f, rfl⟩ : ∃ f, gk = f + 1 := ⟨gk - 1, by omega⟩
      have p1 : (k : Int) + 1 < (M.sg.length : Int) := by omega
      have p2 : IntKind.i64.wrap ((k : Int) + 1 - 1) = (k : Int) := by rw [i64_in _ (by omega)]; omega
      have p3 : IntKind.i64.wrap ((k : Int) + 1 + 1) = (k : Int) + 1 + 1 := i64_in _ (by omega)
      have p4 : (0 : Int) ≤ (k : Int) + 1 := by omega
      have p5 : ((k : Int) + 1).toNat = k + 1 := by omega
      have p6 : (k : Int) < (M.sg.length : Int) := by omega
      have p7 : k < M.sg.length := by omega
      by_cases hb : bu M.sg k < bu M.sg (k + 1)
      · have q4 : ¬ ((bu M.sg (k + 1)).toNat : Int) ≤ ((bu M.sg k).toNat : Int) := by rw [UInt8.lt_iff_toNat_lt] at hb; omega
        have HP2 : Hid (∀ i, i < k + 1 → bu M.sg i < bu M.sg (i + 1)) := Lib.hid fun i hi => by
          rcases Nat.lt_or_ge i k with hl | hl
          · exact HP.out i hl
          · obtain rfl : i = k := by omega
            exact hb
        have q5 : ¬ (bu M.sg (k + 1)).toNat ≤ (bu M.sg k).toNat := by omega
        clear hb HP
        go_wp2_with fail
        go_quiet (fail)
        go_wp2_with fail
        go_roundg f
        case measure => omega
        case rel => exact ⟨k + 1, q + nq, by omega, by simp, by simp, HP2⟩
      · have q4 : ((bu M.sg (k + 1)).toNat : Int) ≤ ((bu M.sg k).toNat : Int) := by rw [UInt8.lt_iff_toNat_lt] at hb; omega
        have q5 : (bu M.sg (k + 1)).toNat ≤ (bu M.sg k).toNat := by omega
        have HE := Lib.hid (H6.out (fun h => hb ((riseB_iff _).1 h k hlt)))
        clear hb HP H6 HRS
        go_wp2_with fail
        go_quiet (fail)
        go_wp2_with fail
        go_ret
        exact ⟨by rw [HE.out]; rfl, below_drewN HB.out _⟩
    · have HE := Lib.hid (HRS.out ((riseB_iff _).2 fun i hi => HP.out i (by have : M.s = M.sg.length := rfl; omega)))
      have p1 : ¬ (k : Int) + 1 < (M.sg.length : Int) := by omega
      clear HP H6 HRS hkf
      go_wp2_with fail
      go_loopg [53] m (fun f iv wr => ∃ j : Nat, j + f = m ∧ iv = .int .i64 (j : Int) ∧ wr = w1.drewN q ∧ Hid (rowsEM M.n M.s (M.nx.drop j) = M.wrong))
      case atStart => exact ⟨0, by omega, rfl, rfl, Lib.hid HE.out.symm⟩
      case round =>
        clear HE
        obtain ⟨j, hjf, rfl, rfl, HE⟩ := hrel
        by_cases hltj : j < m
        · obtain ⟨f, rfl⟩ : ∃ f, gk = f + 1 := ⟨gk - 1, by omega⟩
          obtain ⟨b, off, a, mm, cc, rfl, _, cr, hI⟩ := HR.out.at_ hltj
          have HI := Lib.hid hI
          have HD := Lib.hid (drop_ro (l := M.nx) (k := j) (by have := HR.out.1; omega))
          have p2 : (j : Int) < (m : Int) := by omega
          have hmm := hI.1
          have HLN := Lib.hid hmm
          generalize ro M.nx j = row at *
          clear hI
          by_cases hs : mm = M.sg.length
          · subst hs
            have q4 : ((M.sg.length : Int) != (M.sg.length : Int)) = false := by simp
            have p8 : IntKind.i64.wrap ((m : Int) - 1) = (m : Int) - 1 := i64_in _ (by omega)
            have p9 : IntKind.i64.wrap ((j : Int) + 1) = (j : Int) + 1 := i64_in _ (by omega)
            clear hmm
            go_wp2_with fail
            go_loopg [66] M.sg.length (fun f2 iv wr => ∃ d : Nat, d + f2 = M.sg.length ∧ iv = .int .i64 (d : Int) ∧ wr = w1.drewN q ∧ Hid (∀ i, i < d → 0 ≤ gi row i ∧ gi row i < m))
            case atStart => exact ⟨0, by omega, rfl, rfl, Lib.hid fun i h => absurd h (by omega)⟩
            case round =>
              obtain ⟨d, hdf, rfl, rfl, HP⟩ := hrel
              by_cases hltd : d < M.sg.length
              · obtain ⟨f2, rfl⟩ : ∃ f, gk = f + 1 := ⟨gk - 1, by omega⟩
                obtain ⟨b2, off2, rfl, _, ce⟩ := HI.out.at_ hltd
                have p10 : (d : Int) < (M.sg.length : Int) := by omega
                have p11 : IntKind.i64.wrap ((d : Int) + 1) = (d : Int) + 1 := i64_in _ (by omega)
                by_cases hv : 0 ≤ gi row d ∧ gi row d ≤ (m : Int) - 1
                · have HP2 : Hid (∀ i, i < d + 1 → 0 ≤ gi row i ∧ gi row i < m) := Lib.hid fun i hi => by
                    rcases Nat.lt_or_ge i d with hl | hl
                    · exact HP.out i hl
                    · obtain rfl : i = d := by omega
                      omega
                  have HW := Lib.hid (decide_eq_true hv)
                  generalize gi row d = v at ce HW
                  clear hv HP
                  go_wp2_with fail
                  refine (within_any v 0 ((m : Int) - 1) _).mono ?_
                  rintro e w' ⟨rfl, rfl⟩
                  rw [HW.out]
                  go_wp2_with fail
                  go_roundg f2
                  case measure => omega
                  case rel => exact ⟨d + 1, by omega, by simp, rfl, HP2⟩
                · have HE2 : Hid (M.wrong = 1) := Lib.hid (by
                    have hE := HE.out
                    rw [HD.out, rowsE_cons] at hE
                    have h1 : rowEM M.n M.s row = 1 := by
                      unfold rowEM
                      rw [if_pos HLN.out, if_neg]
                      intro h
                      have := rangeB_iff.1 h d (by rw [HLN.out]; exact hltd)
                      have := HN.out
                      exact hv (by omega)
                    rw [h1, if_neg (by decide)] at hE
                    exact hE.symm)
                  have HW := Lib.hid (decide_eq_false hv)
                  generalize gi row d = v at ce HW
                  clear hv HP HE
                  go_wp2_with fail
                  refine (within_any v 0 ((m : Int) - 1) _).mono ?_
                  rintro e w' ⟨rfl, rfl⟩
                  rw [HW.out]
                  go_wp2_with fail
                  go_ret
                  exact ⟨by rw [HE2.out]; rfl, below_drewN HB.out _⟩
              · have HE2 : Hid (rowsEM M.n M.s (M.nx.drop (j + 1)) = M.wrong) := Lib.hid (by
                  have hE := HE.out
                  rw [HD.out, rowsE_cons] at hE
                  have h1 : rowEM M.n M.s row = 0 := rowEM_zero.2 ⟨HLN.out, rangeB_iff.2 fun i hi => by have := HP.out i (by have := HLN.out; omega); have := HN.out; omega⟩
                  rw [if_pos h1] at hE
                  exact hE)
                have p10 : ¬ (d : Int) < (M.sg.length : Int) := by omega
                clear HP HE
                go_wp2_with fail
                go_roundg f
                case measure => omega
                case rel => exact ⟨j + 1, by omega, by simp, rfl, HE2⟩
          · have HE2 : Hid (M.wrong = 3) := Lib.hid (by
              have hE := HE.out
              rw [HD.out, rowsE_cons] at hE
              have h1 : rowEM M.n M.s row = 3 := by
                unfold rowEM
                rw [if_neg (by rw [HLN.out]; exact hs)]
              rw [h1, if_neg (by decide)] at hE
              exact hE.symm)
            have q4 : ((mm : Int) != (M.sg.length : Int)) = true := by simp; omega
            clear HE hs hmm
            go_wp2_with fail
            go_ret
            exact ⟨by rw [HE2.out]; rfl, below_drewN HB.out _⟩
        · have HE2 : Hid (M.wrong = 0) := Lib.hid (by
            have hE := HE.out
            rw [List.drop_of_length_le (by have := HR.out.1; omega)] at hE
            exact hE.symm)
          have p2 : ¬ (j : Int) < (m : Int) := by omega
          clear HE
          go_wp2_with fail
          go_ret
          exact ⟨by rw [HE2.out]; rfl, below_drewN HB.out _⟩
end Go.Proofs.YtchhbnnpannnhaaGreatDoor

namespace Go.Proofs.YtchhbnnpannnhaaGreatDoor
open Go.RowKit IntWalk
set_option linter.unusedSimpArgs false
attribute [local go_sem] byte_at str_app
attribute [local go_sem ↓] Go.wp_at_zero Go.wp_at_succ

theorem ints_ext {L L2 : List Int} (h : L.length = L2.length) (hp : ∀ i, i < L.length → gi L i = gi L2 i) : L = L2 :=
  List.ext_getElem h fun i h1 h2 => by have := hp i h1; rw [gi_eq h1, gi_eq h2] at this; exact this
set_option maxRecDepth 100000 in
set_option maxHeartbeats 2000000 in
theorem smI_any (A A2 : Option Addr) (n m c c2 B : Nat) (L L2 : List Int) (w : World) (h : Ints w B A n L) (h2 : Ints w B A2 m L2) (hn : n ≤ 100000) :
    Calls Tryz.prog 51 #[.slice A n c, .slice A2 m c2] w fun e w' => e = .returned (.bool (decide (L = L2))) ∧ ∃ q, w' = w.drewN q := by
  have H1 := Lib.hid h; have H2 := Lib.hid h2
  have l1 := h.1; have l2 := h2.1
  clear h h2
  by_cases hnm : n = m
  · subst hnm
    have q1 : ((n : Int) != (n : Int)) = false := by simp
    have HL := Lib.hid l1; have HL2 := Lib.hid l2
    clear l1 l2
    go_enter Tryz.func51, Tryz.ntmps51
    go_wp2_with fail
    go_loopg [5] n (fun f iv wr => ∃ j q : Nat, j + f = n ∧ iv = .int .i64 (j : Int) ∧ wr = w.drewN q ∧ Hid (∀ i, i < j → gi L i = gi L2 i))
    case atStart => exact ⟨0, 0, by omega, rfl, rfl, Lib.hid fun i h => absurd h (by omega)⟩
    case round =>
      obtain ⟨j, q, hjf, rfl, rfl, HP⟩ := hrel
      by_cases hlt : j < n
      · obtain ⟨f, rfl⟩ : ∃ f, gk = f + 1 := ⟨gk - 1, by omega⟩
        obtain ⟨b, o, rfl, _, c0⟩ := H1.out.at_ hlt
        obtain ⟨b2, o2, rfl, _, c1⟩ := H2.out.at_ hlt
        have p1 : (j : Int) < (n : Int) := by omega
        have p2 : IntKind.i64.wrap ((j : Int) + 1) = (j : Int) + 1 := i64_in _ (by omega)
        by_cases he : gi L j = gi L2 j
        · have HP2 : Hid (∀ i, i < j + 1 → gi L i = gi L2 i) := Lib.hid fun i hi => by
            rcases Nat.lt_or_ge i j with hl | hl
            · exact HP.out i hl
            · obtain rfl : i = j := by omega
              exact he
          have q2 : (gi L j != gi L2 j) = false := by rw [he]; simp
          clear he HP
          generalize gi L j = x at *
          generalize gi L2 j = y at *
          go_wp2_with fail
          go_quiet (fail)
          go_wp2_with fail
          go_roundg f
          case measure => omega
          case rel => exact ⟨j + 1, q + nq, by omega, by simp, by simp, HP2⟩
        · have q2 : (gi L j != gi L2 j) = true := by simpa using he
          have HD : Hid (decide (L = L2) = false) := Lib.hid (decide_eq_false fun e => he (by rw [e]))
          clear he HP
          generalize gi L j = x at *
          generalize gi L2 j = y at *
          go_wp2_with fail
          go_quiet (fail)
          go_wp2_with fail
          go_ret
          exact ⟨ret_bool HD.out.symm, q + nq, by simp⟩
      · obtain rfl : j = n := by omega
        have HD : Hid (decide (L = L2) = true) := Lib.hid (decide_eq_true (ints_ext (HL.out.trans HL2.out.symm) fun i hi => HP.out i (by rw [HL.out] at hi; exact hi)))
        have p1 : ¬ (j : Int) < (j : Int) := by omega
        clear HP
        go_wp2_with fail
        go_ret
        exact ⟨ret_bool HD.out.symm, _, rfl⟩
  · have q1 : ((n : Int) != (m : Int)) = true := by simp; omega
    have HD : Hid (decide (L = L2) = false) := Lib.hid (decide_eq_false fun e => hnm (by rw [← l1, ← l2, e]))
    clear l1 l2 hnm
    go_enter Tryz.func51, Tryz.ntmps51
    go_wp2_with fail
    go_ret
    exact ⟨ret_bool HD.out.symm, 0, rfl⟩

theorem rws_ext {L L2 : List (List Int)} (h : L.length = L2.length) (hp : ∀ i, i < L.length → ro L i = ro L2 i) : L = L2 := by
  apply List.ext_getElem h
  intro i h1 h2
  have := hp i h1
  rwa [ro_eq h1, ro_eq h2] at this
set_option maxRecDepth 100000 in
set_option maxHeartbeats 2000000 in
theorem smR_any (A A2 : Option Addr) (n m c c2 B : Nat) (L L2 : List (List Int)) (w : World) (h : Rws w B A n L) (h2 : Rws w B A2 m L2) (hn : n ≤ 100000) (hr : ∀ i, i < n → (ro L i).length ≤ 100000) :
    Calls Tryz.prog 32 #[.slice A n c, .slice A2 m c2] w fun e w' => e = .returned (.bool (decide (L = L2))) ∧ ∃ q, w' = w.drewN q := by
  have H1 := Lib.hid h; have H2 := Lib.hid h2; have HR := Lib.hid hr
  have l1 := h.1; have l2 := h2.1
  clear h h2 hr
  by_cases hnm : n = m
  · subst hnm
    have q1 : ((n : Int) != (n : Int)) = false := by simp
    have HL := Lib.hid l1; have HL2 := Lib.hid l2
    clear l1 l2
    go_enter Tryz.func32, Tryz.ntmps32
    go_wp2_with fail
    go_loopg [5] n (fun f iv wr => ∃ j q : Nat, j + f = n ∧ iv = .int .i64 (j : Int) ∧ wr = w.drewN q ∧ Hid (∀ i, i < j → ro L i = ro L2 i))
    case atStart => exact ⟨0, 0, by omega, rfl, rfl, Lib.hid fun i h => absurd h (by omega)⟩
    case round =>
      obtain ⟨j, q, hjf, rfl, hwr, HP⟩ := hrel
      have HWR := Lib.hid hwr
      have H1r : Rws wr B A n L := by rw [hwr]; exact H1.out
      have H2r : Rws wr B A2 n L2 := by rw [hwr]; exact H2.out
      clear hwr
      by_cases hlt : j < n
      · obtain ⟨f, rfl⟩ : ∃ f, gk = f + 1 := ⟨gk - 1, by omega⟩
        obtain ⟨b, o, a, na, ca, rfl, _, c0, hI1⟩ := H1r.at_ hlt
        obtain ⟨b2, o2, a2, na2, ca2, rfl, _, c1, hI2⟩ := H2r.at_ hlt
        have HI1 := Lib.hid hI1; have HI2 := Lib.hid hI2
        have HN : Hid (na ≤ 100000) := Lib.hid (by have := HR.out j hlt; have := hI1.1; omega)
        have p1 : (j : Int) < (n : Int) := by omega
        have p2 : IntKind.i64.wrap ((j : Int) + 1) = (j : Int) + 1 := i64_in _ (by omega)
        clear hI1 hI2 H1r H2r
        by_cases he : ro L j = ro L2 j
        · have HP2 : Hid (∀ i, i < j + 1 → ro L i = ro L2 i) := Lib.hid fun i hi => by
            rcases Nat.lt_or_ge i j with hl | hl
            · exact HP.out i hl
            · obtain rfl : i = j := by omega
              exact he
          have hd : decide (ro L j = ro L2 j) = true := decide_eq_true he
          have HC : ∀ r, Calls Tryz.prog 51 #[.slice a na ca, .slice a2 na2 ca2] (wr.drewN r) fun e w' => e = .returned (.bool true) ∧ ∃ m, w' = (wr.drewN r).drewN m := fun r => by
            have := smI_any a a2 na na2 ca ca2 B (ro L j) (ro L2 j) (wr.drewN r) HI1.out HI2.out HN.out
            rwa [hd] at this
          have HCC := Lib.hid HC
          clear he HP hd HC
          go_wp2_with fail
          go_quiet ((go_at_call 51; exact Calls.quiet_of (HCC.out _)))
          go_wp2_with fail
          go_roundg f
          case measure => omega
          case rel => exact ⟨j + 1, q + nq, by omega, by simp, by rw [HWR.out]; simp, HP2⟩
        · have hd : decide (ro L j = ro L2 j) = false := decide_eq_false he
          have HD : Hid (decide (L = L2) = false) := Lib.hid (decide_eq_false fun e => he (by rw [e]))
          have HC : ∀ r, Calls Tryz.prog 51 #[.slice a na ca, .slice a2 na2 ca2] (wr.drewN r) fun e w' => e = .returned (.bool false) ∧ ∃ m, w' = (wr.drewN r).drewN m := fun r => by
            have := smI_any a a2 na na2 ca ca2 B (ro L j) (ro L2 j) (wr.drewN r) HI1.out HI2.out HN.out
            rwa [hd] at this
          have HCC := Lib.hid HC
          clear he HP hd HC
          go_wp2_with fail
          go_quiet ((go_at_call 51; exact Calls.quiet_of (HCC.out _)))
          go_wp2_with fail
          go_ret
          exact ⟨ret_bool HD.out.symm, q + nq, by rw [HWR.out]; simp⟩
      · obtain rfl : j = n := by omega
        have HD : Hid (decide (L = L2) = true) := Lib.hid (decide_eq_true (rws_ext (HL.out.trans HL2.out.symm) fun i hi => HP.out i (by rw [HL.out] at hi; exact hi)))
        have p1 : ¬ (j : Int) < (j : Int) := by omega
        clear HP
        go_wp2_with fail
        go_ret
        exact ⟨ret_bool HD.out.symm, _, HWR.out⟩
  · have q1 : ((n : Int) != (m : Int)) = true := by simp; omega
    have HD : Hid (decide (L = L2) = false) := Lib.hid (decide_eq_false fun e => hnm (by rw [← l1, ← l2, e]))
    clear l1 l2 hnm
    go_enter Tryz.func32, Tryz.ntmps32
    go_wp2_with fail
    go_ret
    exact ⟨ret_bool HD.out.symm, 0, rfl⟩

noncomputable instance : DecidableEq Mc := fun _ _ => Classical.propDecidable _
set_option maxHeartbeats 1000000 in
theorem has3_any (A : Option Addr) (n c B : Nat) (L : List Int) (x : Int) (w : World) (hL : Ints w B A n L) (hn : n ≤ 100000) :
    Calls Tryz.prog 24 #[.slice A n c, .int .i64 x] w fun e w' => e = .returned (.bool (decide (x ∈ L))) ∧ w = w' := by
  have HL := Lib.hid hL
  have hlen := hL.1
  clear hL
  go_enter Tryz.func24, Tryz.ntmps24
  go_wp2_with fail
  go_loopg [5] n (fun f iv wr => ∃ k : Nat, k + f = n ∧ iv = .int .i64 (k : Int) ∧ w = wr ∧ Hid (∀ j, j < k → gi L j ≠ x))
  case atStart => exact ⟨0, by omega, rfl, rfl, Lib.hid fun j hj => absurd hj (by omega)⟩
  case round =>
    obtain ⟨k, hkf, rfl, rfl, HN⟩ := hrel
    by_cases hlt : k < n
    · obtain ⟨f, rfl⟩ : ∃ f, gk = f + 1 := ⟨gk - 1, by omega⟩
      have HM : Hid (gi L k ∈ L) := Lib.hid (gi_mem (by omega))
      obtain ⟨b, off, rfl, _, hc⟩ := HL.out.at_ hlt
      have p1 : IntKind.i64.wrap ((k : Int) + 1) = (k : Int) + 1 := i64_in _ (by omega)
      have p2 : (k : Int) < (n : Int) := by omega
      by_cases he : gi L k = x
      · rw [he] at HM hc
        have q1 : (x == x) = true := by simp
        clear he
        go_wp2_with fail
        go_ret
        exact ⟨ret_bool (by simp [HM.out]), rfl⟩
      · have q1 : (gi L k == x) = false := by simpa using he
        have HN2 : Hid (∀ j, j < k + 1 → gi L j ≠ x) := Lib.hid fun j hj => by
          rcases Nat.lt_or_ge j k with hl | hl
          · exact HN.out j hl
          · obtain rfl : j = k := by omega
            exact he
        clear he HM
        generalize gi L k = v at hc q1
        go_wp2_with fail
        go_roundg f
        case measure => omega
        case rel => exact ⟨k + 1, by omega, by simp, rfl, HN2⟩
    · have p2 : ¬ (k : Int) < (n : Int) := by omega
      have HX : Hid (x ∉ L) := Lib.hid fun hm => by
        obtain ⟨j, hj, e⟩ := List.getElem_of_mem hm
        exact HN.out j (by omega) (by rw [gi_eq hj]; exact e)
      go_wp2_with fail
      go_ret
      exact ⟨ret_bool (by simp [HX.out]), rfl⟩


end Go.Proofs.YtchhbnnpannnhaaGreatDoor
