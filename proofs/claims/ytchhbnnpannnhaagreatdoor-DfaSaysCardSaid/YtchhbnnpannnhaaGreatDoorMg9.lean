/- Texts joined, each with its own conditions. (1) A pattern's machine, its states the sets of places one may be in, numbered as they are met; in plain Lean. No condition. (2) dfa.Of's memory: what is still to be looked at, the machine that is being made, the map from sets to numbers; rows of the call's own. No condition. (3) NfaEnds: the law's walk. No condition. (4) dfa.Of's parts: signsOf, the closure that collects places. No condition. -/
import Derived.Test.YtchhbnnpannnhaaGreatDoorMg8
import Derived.Laws.AppendOwnNone
import Derived.Maps.Own
import Derived.Maps.OwnSet
import Derived.BigQuiet
import Derived.Deep.QuietTactic
namespace Go.Proofs.YtchhbnnpannnhaaGreatDoor
set_option linter.unusedVariables false

/-- The number whose bits say who is in. -/
def mkB (P : Nat → Bool) : Nat → Nat
  | 0 => 0
  | n + 1 => mkB P n ||| (if P n then 2 ^ n else 0)
theorem mkB_bit (P : Nat → Bool) (n c : Nat) : (mkB P n).testBit c = (decide (c < n) && P c) := by
  induction n with
  | zero => simp [mkB]
  | succ n ih =>
    rw [mkB, Nat.testBit_or, ih]
    by_cases hp : P n = true
    · rw [if_pos hp, Nat.testBit_two_pow]
      by_cases hc : c = n
      · subst hc; simp [hp]
      · have : decide (n = c) = false := decide_eq_false (fun e => hc e.symm)
        rw [this, Bool.or_false]
        by_cases hlt : c < n
        · simp [hlt, show c < n + 1 by omega]
        · simp [hlt, show ¬ c < n + 1 by omega]
    · rw [if_neg hp, Nat.zero_testBit, Bool.or_false]
      by_cases hc : c = n
      · subst hc
        have : P c = false := by simpa using hp
        simp [this]
      · by_cases hlt : c < n
        · simp [hlt, show c < n + 1 by omega]
        · simp [hlt, show ¬ c < n + 1 by omega]
theorem mkB_lt (P : Nat → Bool) (n : Nat) : mkB P n < 2 ^ n := by
  apply Nat.lt_pow_two_of_testBit
  intro i hi
  rw [mkB_bit]
  simp; omega
/-- The state at the beginning. -/
def beg : Nat := 1048576
/-- Can one come to a place from a state? -/
def canM (t : Pt) (m j : Nat) : Bool := if m = beg then decide (j ∈ fsP t) else (List.range (leaves t).length).any fun i => m.testBit i && decide ((i, j) ∈ prP t)
/-- Where a sign leads from a state. -/
def toM (t : Pt) (m : Nat) (c : UInt8) : Nat := mkB (fun j => decide (bu (leaves t) j = c) && canM t m j) (leaves t).length
/-- Does a state take? -/
def tkM (t : Pt) (m : Nat) : Bool := if m = beg then nul t else (List.range (leaves t).length).any fun i => m.testBit i && decide (i ∈ lsP t)
/-- The first d signs of a state looked at: those met, and the row. -/
def rowD (t : Pt) (sg : List UInt8) (m : Nat) (met : List Nat) : Nat → List Nat × List Int
  | 0 => (met, [])
  | d + 1 => (if (rowD t sg m met d).1.idxOf (toM t m (bu sg d)) = (rowD t sg m met d).1.length then (rowD t sg m met d).1 ++ [toM t m (bu sg d)] else (rowD t sg m met d).1, (rowD t sg m met d).2 ++ [((rowD t sg m met d).1.idxOf (toM t m (bu sg d)) : Int)])
/-- Behind so many rounds. -/
def dfb (t : Pt) (sg : List UInt8) : Nat → Bf
  | 0 => ⟨[beg], [], []⟩
  | a + 1 => if a < (dfb t sg a).met.length then ⟨(rowD t sg ((dfb t sg a).met.getD a 0) (dfb t sg a).met sg.length).1, (dfb t sg a).rows ++ [(rowD t sg ((dfb t sg a).met.getD a 0) (dfb t sg a).met sg.length).2], (dfb t sg a).tks ++ [tkM t ((dfb t sg a).met.getD a 0)]⟩ else dfb t sg a
theorem dfb_succ (t : Pt) (sg : List UInt8) (a : Nat) : dfb t sg (a + 1) = if a < (dfb t sg a).met.length then ⟨(rowD t sg ((dfb t sg a).met.getD a 0) (dfb t sg a).met sg.length).1, (dfb t sg a).rows ++ [(rowD t sg ((dfb t sg a).met.getD a 0) (dfb t sg a).met sg.length).2], (dfb t sg a).tks ++ [tkM t ((dfb t sg a).met.getD a 0)]⟩ else dfb t sg a := by rw [dfb]
/-- The machine. -/
def dfM (t : Pt) (sg : List UInt8) : Mc := ⟨sg, (dfb t sg 4097).rows, (dfb t sg 4097).tks⟩

theorem toM_lt {t : Pt} {m : Nat} {c : UInt8} (h : (leaves t).length ≤ 12) : toM t m c < 4096 :=
  Nat.lt_of_lt_of_le (mkB_lt _ _) (Nat.le_trans (Nat.pow_le_pow_right (by omega) h) (by decide))
theorem toM_bit {t : Pt} {m : Nat} {c : UInt8} (j : Nat) : (toM t m c).testBit j = (decide (j < (leaves t).length) && (decide (bu (leaves t) j = c) && canM t m j)) := mkB_bit _ _ _
theorem toM_pow {t : Pt} {m : Nat} {c : UInt8} : toM t m c < 2 ^ (leaves t).length := mkB_lt _ _
/-- Those met: the beginning's one, and sets of places, each once. -/
structure MetD (n : Nat) (met : List Nat) : Prop where
  nd : met.Nodup
  fst : ∃ l, met = beg :: l ∧ ∀ x ∈ l, x < 2 ^ n
theorem MetD.pos {n : Nat} {met : List Nat} (h : MetD n met) : 0 < met.length := by obtain ⟨l, rfl, _⟩ := h.fst; simp
theorem MetD.len {n : Nat} {met : List Nat} (h : MetD n met) (hn : n ≤ 12) : met.length ≤ 4097 := by
  obtain ⟨l, rfl, hl⟩ := h.fst
  have h1 := nodup_le (n := 4096) (List.nodup_cons.1 h.nd).2 fun x hx => Nat.lt_of_lt_of_le (hl x hx) (Nat.le_trans (Nat.pow_le_pow_right (by omega) hn) (by decide))
  simp only [List.length_cons]; omega
theorem MetD.le {n : Nat} {met : List Nat} (h : MetD n met) (hn : n ≤ 12) {x : Nat} (hx : x ∈ met) : x ≤ 1048576 := by
  obtain ⟨l, rfl, hl⟩ := h.fst
  rcases List.mem_cons.1 hx with rfl | hx
  · exact Nat.le_refl _
  · have h1 := hl x hx
    have h2 : 2 ^ n ≤ 2 ^ 12 := Nat.pow_le_pow_right (by omega) hn
    omega
theorem MetD.at_le {n : Nat} {met : List Nat} (h : MetD n met) (hn : n ≤ 12) (j : Nat) : met.getD j 0 ≤ 1048576 := by
  rw [List.getD_eq_getElem?_getD]
  rcases Nat.lt_or_ge j met.length with hl | hl
  · rw [List.getElem?_eq_getElem hl]; exact h.le hn (List.getElem_mem hl)
  · rw [List.getElem?_eq_none hl]; exact Nat.zero_le _
theorem MetD.add {n : Nat} {met : List Nat} (h : MetD n met) {x : Nat} (hx : x < 2 ^ n) (hn : met.idxOf x = met.length) : MetD n (met ++ [x]) := by
  have hnm : x ∉ met := fun hm => by have := List.idxOf_lt_length_iff.2 hm; omega
  refine ⟨?_, ?_⟩
  · rw [List.nodup_append]
    refine ⟨h.nd, by simp, fun a ha b hb e => ?_⟩
    rw [List.mem_singleton] at hb
    subst hb; subst e
    exact hnm ha
  · obtain ⟨l, rfl, hl⟩ := h.fst
    refine ⟨l ++ [x], rfl, fun y hy => ?_⟩
    rcases List.mem_append.1 hy with hy | hy
    · exact hl y hy
    · rw [List.mem_singleton.1 hy]; exact hx
theorem rowD_ok {t : Pt} {sg : List UInt8} {m : Nat} {met : List Nat} (h : MetD (leaves t).length met) : ∀ d, MetD (leaves t).length (rowD t sg m met d).1 ∧ (∃ l, (rowD t sg m met d).1 = met ++ l) ∧ (rowD t sg m met d).2.length = d
  | 0 => ⟨h, ⟨[], by simp [rowD]⟩, rfl⟩
  | d + 1 => by
    obtain ⟨h1, ⟨l, h2⟩, h3⟩ := rowD_ok h d
    unfold rowD
    generalize (rowD t sg m met d).1 = q at *
    generalize (rowD t sg m met d).2 = r at *
    refine ⟨?_, ?_, by simp [h3]⟩
    · dsimp only
      split
      · rename_i hn; exact h1.add toM_pow hn
      · exact h1
    · dsimp only
      split
      · exact ⟨l ++ [toM t m (bu sg d)], by rw [h2, List.append_assoc]⟩
      · exact ⟨l, h2⟩
structure DfOk (t : Pt) (sg : List UInt8) (a : Nat) (p : Bf) : Prop where
  met : MetD (leaves t).length p.met
  rl : p.rows.length = min a p.met.length
  tl : p.tks.length = min a p.met.length
  row : ∀ j, j < p.rows.length → (ro p.rows j).length = sg.length
theorem dfb_ok (t : Pt) (sg : List UInt8) : ∀ a, DfOk t sg a (dfb t sg a)
  | 0 => by
    unfold dfb
    exact ⟨⟨by simp, [], rfl, fun x hx => by cases hx⟩, by simp, by simp, fun j hj => absurd hj (by simp)⟩
  | a + 1 => by
    have ih := dfb_ok t sg a
    unfold dfb
    generalize dfb t sg a = p at *
    by_cases ha : a < p.met.length
    · rw [if_pos ha]
      obtain ⟨h1, ⟨l, h2⟩, h3⟩ := rowD_ok (sg := sg) (m := p.met.getD a 0) ih.met sg.length
      have hlen : (rowD t sg (p.met.getD a 0) p.met sg.length).1.length = p.met.length + l.length := by rw [h2, List.length_append]
      have hrl : p.rows.length = a := by rw [ih.rl]; omega
      have htl : p.tks.length = a := by rw [ih.tl]; omega
      refine ⟨h1, ?_, ?_, fun j hj => ?_⟩
      · simp only [List.length_append, List.length_cons, List.length_nil]; omega
      · simp only [List.length_append, List.length_cons, List.length_nil]; omega
      · simp only [List.length_append, List.length_cons, List.length_nil] at hj
        rcases Nat.lt_or_ge j a with hl | hl
        · have e : ro (p.rows ++ [(rowD t sg (p.met.getD a 0) p.met sg.length).2]) j = ro p.rows j := by unfold ro; rw [List.getElem?_append_left (by omega)]
          simp only [e]
          exact ih.row j (by omega)
        · obtain rfl : j = a := by omega
          have e : ro (p.rows ++ [(rowD t sg (p.met.getD j 0) p.met sg.length).2]) j = (rowD t sg (p.met.getD j 0) p.met sg.length).2 := by unfold ro; rw [← hrl]; simp
          simp only [e]
          exact h3
    · rw [if_neg ha]
      exact ⟨ih.met, by rw [ih.rl]; omega, by rw [ih.tl]; omega, ih.row⟩
theorem dfb_still {t : Pt} {sg : List UInt8} {a : Nat} (h : (dfb t sg a).met.length ≤ a) : ∀ d, dfb t sg (a + d) = dfb t sg a
  | 0 => rfl
  | d + 1 => by
    have ih := dfb_still h d
    rw [← Nat.add_assoc]
    rw [dfb_succ, if_neg (by rw [ih]; omega), ih]
theorem dfb_end {t : Pt} {sg : List UInt8} (hn : (leaves t).length ≤ 12) {a : Nat} (h : (dfb t sg a).met.length ≤ a) : dfb t sg a = dfb t sg 4097 := by
  rcases Nat.le_total a 4097 with hl | hl
  · exact (dfb_still h (4097 - a)).symm.trans (congrArg (dfb t sg) (Nat.add_sub_of_le hl))
  · exact (congrArg (dfb t sg) (Nat.add_sub_of_le hl)).symm.trans (dfb_still ((dfb_ok t sg 4097).met.len hn) (a - 4097))
end Go.Proofs.YtchhbnnpannnhaaGreatDoor

namespace Go.Proofs.YtchhbnnpannnhaaGreatDoor
open Go.RowKit IntWalk Go.Maps
set_option linter.unusedSimpArgs false
set_option linter.unusedVariables false

theorem info_intL : (Tryz.prog.info? 3).map (fun i => (i.zero, i.size, i.bytes)) = some (some (.int .i64 0), 1, 8) := by kernel_rfl
theorem info_rowsL : (Tryz.prog.info? 44).map (fun i => (i.zero, i.size, i.bytes)) = some (some (.slice none 0 0), 1, 24) := by kernel_rfl
theorem row_cellL {W : World} {g k : Nat} {E : List Int} (hb : Blk W g 3 (E.map (Value.int .i64))) (hk : k < E.length) : W.cell? ⟨g, k, none⟩ = some (.int .i64 (gi E k)) := by
  rw [hb.cell k, List.getElem?_map, List.getElem?_eq_getElem hk, ← gi_eq hk]; rfl
theorem blk_setL {W : World} {g k : Nat} {v : Int} {E : List Int} (hb : Blk W g 3 (E.map (Value.int .i64))) : Blk (W.setCell ⟨g, k, none⟩ (.int .i64 v)) g 3 ((E.set k v).map (Value.int .i64)) := by
  have := hb.set_ k (.int .i64 v)
  rwa [← List.map_set] at this
theorem Ints.of_blk {W : World} {g n B : Nat} {E : List Int} (hb : Blk W g 3 (E.map (Value.int .i64))) (hn : E.length = n) (hB : g < B) : Ints W B (some ⟨g, 0, none⟩) n E :=
  ⟨hn, fun _ => ⟨g, 0, rfl, hB, fun j hj => by rw [Nat.zero_add]; exact row_cellL hb (by omega)⟩⟩
theorem wpList_insert_own {H : Type} {P : Program} (w : World) {ops : Array Oper} {rest : List Oper} {o : Oper} {a : Act} {Q : Exit → Act → World → Prop}
    (hg : o.guard = none) (m x v : Operand) (t : TypeId) (hop : o.op = Op.insert t m x v)
    (k e : TypeId) (K : Keyed P k) (ht : P.underlying t = some (.map k e)) (R : Value → Option (DataW H × List MemPlace)) (b n : Nat) (D : DataW H)
    (hm : a.eval m = .map (some b)) (hown : w.ownsMap P k R b n D) (hn : n < maxLen) (key val : Value) (kl : Lit) (hx : a.eval x = key) (hv : a.eval v = val) (hkey : keyOf P k key = some kl)
    (d : DataW H) (ps : List MemPlace) (hval : R val = some (d, ps))
    (hK : ∀ w', w'.ownsMap P k R b (n + 1) (D.put kl d) → w.grownBy w' (some b) → wpList P ops Q rest (a.put o.dst undef) w') :
    wpList P ops Q (o :: rest) a w := by
  refine wpList_plain hg fun K' hK' => ?_
  obtain ⟨w', hrun, r1, r2⟩ := hown.update K ht hn hkey hval
  unfold Oper.wp
  simp [execOp, hop, hm, hx, hv, hrun, Result.andThen]
  exact hK' _ _ (hK w' r1 r2)

theorem ik (a : Int) : WideAt.IsKeyLit (.int .i64 a) := trivial
/-- The map with f's first k values, each with its place. -/
def mapD (f : Nat → Int) : Nat → DataW Unit
  | 0 => .map []
  | k + 1 => (mapD f k).put (.int .i64 (f k)) (.lit (.int .i64 (k : Int)))
theorem mapD_congr {f g : Nat → Int} : ∀ k, (∀ j, j < k → f j = g j) → mapD f k = mapD g k
  | 0, _ => rfl
  | k + 1, h => by
    unfold mapD
    rw [mapD_congr k fun j hj => h j (by omega), h k (by omega)]
theorem mapD_tidy (f : Nat → Int) : ∀ k, Tidy (mapD f k)
  | 0 => tidy_empty
  | k + 1 => (mapD_tidy f k).put (ik _) _
theorem lit_ne {a b : Int} (h : a ≠ b) : Lit.int .i64 a ≠ Lit.int .i64 b := fun e => h (by injection e)
theorem mapD_has (f : Nat → Int) (x : Int) : ∀ k, Maps.has (mapD f k) (.int .i64 x) = (List.range k).any fun j => decide (f j = x)
  | 0 => rfl
  | k + 1 => by
    unfold mapD
    rw [List.range_succ, List.any_append, ← mapD_has f x k]
    by_cases h : f k = x
    · subst h
      rw [has_put_same (mapD_tidy f k).isMap (ik _)]
      simp
    · rw [has_put_other (lit_ne fun e => h e.symm)]
      simp [h]
theorem mapD_size (f : Nat → Int) : ∀ k, (∀ i j, i < k → j < i → f j ≠ f i) → Maps.size (mapD f k) = k
  | 0, _ => rfl
  | k + 1, h => by
    unfold mapD
    rw [size_put (mapD_tidy f k), mapD_has, mapD_size f k fun i j hi hj => h i j (by omega) hj, if_neg]
    simp only [List.any_eq_true, List.mem_range, decide_eq_true_eq, not_exists, not_and]
    exact fun j hj => h k j (by omega) hj
theorem mapD_at (f : Nat → Int) : ∀ k, (∀ i j, i < k → j < i → f j ≠ f i) → ∀ j, j < k → ∀ z, (mapD f k).atKey (.int .i64 (f j)) z = .lit (.int .i64 (j : Int))
  | 0, _, j, hj, _ => absurd hj (by omega)
  | k + 1, h, j, hj, z => by
    unfold mapD
    by_cases e : j = k
    · subst e; exact atKey_put_same (mapD_tidy f j).isMap (ik _) _ z
    · rw [atKey_put_other (lit_ne (h k j (by omega) (by omega)))]
      exact mapD_at f k (fun i j hi hj => h i j (by omega) hj) j (by omega) z

/-- Rows of numbers of the call's own, each in a block of numbers that 'ok' allows. -/
def KZ (w : World) (D : Nat) (v : Value) (KS : List (List Int)) (ok : Nat → Prop) : Prop :=
  ∃ KC : List Value, KC.length = KS.length ∧ w.ownsRow D 44 1 v KC.length KC ∧ ∀ j, j < KS.length → ∃ b m c cur, KC[j]? = some (.slice (some ⟨b, 0, none⟩) m c) ∧ D ≤ b ∧ ok b ∧ w.heap[b]? = some (.cells cur 3 (0, 0)) ∧ (ro KS j).length = m ∧ ∀ d, d < m → cur[d]? = some (.int .i64 (gi (ro KS j) d))
section
variable {w w' : World} {D : Nat} {v : Value} {KS : List (List Int)} {ok ok' : Nat → Prop}
theorem KZ.nil (w : World) (D : Nat) (ok : Nat → Prop) : KZ w D (.slice none 0 0) [] ok := ⟨[], rfl, World.ownsRow_nil _ _ _ _, fun j hj => absurd hj (by simp)⟩
theorem KZ.shape (h : KZ w D v KS ok) : ∃ A c, v = .slice A KS.length c := by
  obtain ⟨KC, h1, h2, _⟩ := h
  obtain ⟨A, c, e, _⟩ := own_shape h2
  exact ⟨A, c, by rw [e, h1]⟩
theorem KZ.type (h : KZ w D v KS ok) {k : Nat} (hk : v.ownBlock = some k) : ∃ cs fr, w.heap[k]? = some (.cells cs 44 fr) := by
  obtain ⟨KC, _, h2, _⟩ := h
  rcases h2.2 with ⟨rfl, _⟩ | ⟨g, cap, cur, rfl, _, hg, _⟩
  · cases hk
  · obtain rfl : g = k := by injection hk
    exact ⟨_, _, hg⟩
theorem KZ.lt (h : KZ w D v KS ok) {k : Nat} (hk : v.ownBlock = some k) : D ≤ k ∧ k < w.heap.size := by
  obtain ⟨KC, _, h2, _⟩ := h
  exact h2.lt k hk
theorem KZ.weak (h : KZ w D v KS ok) (hw : ∀ b, b < w.heap.size → ok b → ok' b) : KZ w D v KS ok' := by
  obtain ⟨KC, h1, h2, h3⟩ := h
  refine ⟨KC, h1, h2, fun j hj => ?_⟩
  obtain ⟨b, m, c, cur, k1, k2, k3, k4, k5⟩ := h3 j hj
  exact ⟨b, m, c, cur, k1, k2, hw b (Array.getElem?_eq_some_iff.1 k4).1 k3, k4, k5⟩
/-- What else turns leaves the rows: a block that is none of theirs. -/
theorem KZ.grown {row : Option Nat} (h : KZ w D v KS ok) (hg : w.grownBy w' row) (h1 : ∀ k, row = some k → D ≤ k → k < w.heap.size → v.ownBlock ≠ some k) (h2 : ∀ (k : Nat) (cur : Array Value), row = some k → D ≤ k → w.heap[k]? = some (.cells cur 3 (0, 0)) → ¬ ok k) : KZ w' D v KS ok := by
  obtain ⟨KC, c1, c2, c3⟩ := h
  refine ⟨KC, c1, c2.kept hg ?_, fun j hj => ?_⟩
  · cases hv : v.ownBlock with
    | none => exact .inl rfl
    | some k =>
      right
      rw [← hv]
      intro e
      rw [hv] at e
      exact h1 k e.symm (c2.lt k hv).1 (c2.lt k hv).2 hv
  · obtain ⟨b, m, c, cur, k1, k2, k3, k4, k5⟩ := c3 j hj
    refine ⟨b, m, c, cur, k1, k2, k3, (hg.block b (Array.getElem?_eq_some_iff.1 k4).1 fun e => ?_).trans k4, k5⟩
    exact h2 b cur e.symm k2 k4 k3
theorem KZ.rows {n c : Nat} {A : Option Addr} (h : KZ w D (.slice A n c) KS ok) : Rws w w.heap.size A n KS := by
  obtain ⟨KC, h1, h2, h3⟩ := h
  have hn : KC.length = n := by
    rcases own_shape h2 with ⟨A', c', e, _⟩
    injection e with _ e _
    exact e.symm
  refine ⟨by rw [← h1, hn], fun hp => ?_⟩
  rcases h2.2 with ⟨e, h0⟩ | ⟨g, cap, cur, e, hg, hh, _, _, _, htake⟩
  · omega
  · injection e with e1 e2 e3
    subst e1
    refine ⟨g, 0, rfl, (Array.getElem?_eq_some_iff.1 hh).1, fun j hj => ?_⟩
    obtain ⟨b, m, cc, cu, k1, k2, k3, k4, k5, k6⟩ := h3 j (by omega)
    refine ⟨some ⟨b, 0, none⟩, m, cc, ?_, k5, fun _ => ⟨b, 0, rfl, (Array.getElem?_eq_some_iff.1 k4).1, fun d hd => by rw [Nat.zero_add, cell_of_row w b d cu 3 (0, 0) k4]; exact k6 d hd⟩⟩
    have := h2.cells (g := g) rfl j _ k1
    rw [Nat.zero_add]
    rwa [Addr.add_lit, Nat.zero_add] at this
/-- One row more. -/
theorem KZ.snoc {gk m cap : Nat} {v' : Value} {K : List Int} {cu : Array Value} {KC : List Value} (h1 : KC.length = KS.length) (h3 : ∀ j, j < KS.length → ∃ b m c cur, KC[j]? = some (.slice (some ⟨b, 0, none⟩) m c) ∧ D ≤ b ∧ ok b ∧ w.heap[b]? = some (.cells cur 3 (0, 0)) ∧ (ro KS j).length = m ∧ ∀ d, d < m → cur[d]? = some (.int .i64 (gi (ro KS j) d)))
    (hg1 : D ≤ gk) (hok : ok gk) (hk : w.heap[gk]? = some (.cells cu 3 (0, 0))) (hK : K.length = m) (hc : ∀ d, d < m → cu[d]? = some (.int .i64 (gi K d)))
    (hty : ∀ k, v.ownBlock = some k → ∃ cs fr, w.heap[k]? = some (.cells cs 44 fr)) (hKC : w'.ownsRow D 44 1 v' (KC ++ [Value.slice (some ⟨gk, 0, none⟩) m cap]).length (KC ++ [Value.slice (some ⟨gk, 0, none⟩) m cap])) (hg : w.grownBy w' v.ownBlock) : KZ w' D v' (KS ++ [K]) ok := by
  have keep : ∀ (b : Nat) (cur : Array Value), w.heap[b]? = some (.cells cur 3 (0, 0)) → w'.heap[b]? = some (.cells cur 3 (0, 0)) := fun b cur hb => (hg.block b (Array.getElem?_eq_some_iff.1 hb).1 fun e => by
    obtain ⟨cs, fr, h⟩ := hty b e.symm
    rw [hb] at h
    injection h with h; injection h with _ h _
    exact absurd h (by decide)).trans hb
  refine ⟨KC ++ [.slice (some ⟨gk, 0, none⟩) m cap], by simp [h1], hKC, fun j hj => ?_⟩
  rw [List.length_append, List.length_singleton] at hj
  by_cases hjl : j < KS.length
  · obtain ⟨b, m', c, cur, k1, k2, k3, k4, k5, k6⟩ := h3 j hjl
    have e : ro (KS ++ [K]) j = ro KS j := by unfold ro; rw [List.getElem?_append_left hjl]
    rw [e]
    exact ⟨b, m', c, cur, by rw [List.getElem?_append_left (by omega)]; exact k1, k2, k3, keep b cur k4, k5, k6⟩
  · obtain rfl : j = KS.length := by omega
    have e : ro (KS ++ [K]) KS.length = K := by unfold ro; simp
    rw [e]
    exact ⟨gk, m, cap, cu, by rw [← h1]; simp, hg1, hok, keep gk cu hk, hK, hc⟩
end
theorem res_cell_tmp {P : Program} {fn : Func} {p q : Tmp} {ty : TypeId} (h : fn.results = #[.cell p ty, .tmp q]) (tmps : Array Value) (w : World) (g : Nat) (t : TypeId) (cs : Array Value) (fr : Nat × Nat) (d : TypeDesc)
    (hp : tmps.getD p undef = .pointer (some ⟨g, 0, none⟩)) (hg : w.heap[g]? = some (.cells cs t fr))
    (hu : P.underlying ty = some d) (hd : (match d with | .struct _ | .array _ _ => true | _ => false) = true) (hi : (P.info? ty).map (·.size) = some cs.size) :
    (results fn tmps).run P w = .ok (.tuple #[.agg cs, tmps.getD q undef]) w := by
  have hp' : tmps[p]?.getD undef = .pointer (some ⟨g, 0, none⟩) := by simpa using hp
  simp [results, h, hp', asAddr, run_loadVar_row w g t ty cs fr d hg hu hd hi]
theorem three_atL {w : World} {g : Nat} {a b c : Value} {t : TypeId} (h : w.heap[g]? = some (.cells #[a, b, c] t (0, 0))) : w.cell? ⟨g, 0, none⟩ = some a ∧ w.cell? ⟨g, 1, none⟩ = some b ∧ w.cell? ⟨g, 2, none⟩ = some c ∧ w.frozen? ⟨g, 0, none⟩ = false ∧ w.frozen? ⟨g, 1, none⟩ = false ∧ w.frozen? ⟨g, 2, none⟩ = false :=
  ⟨by rw [Lib.cell_of_heap h]; rfl, by rw [Lib.cell_of_heap h]; rfl, by rw [Lib.cell_of_heap h]; rfl, Lib.frozen_of_heap h 0, Lib.frozen_of_heap h 1, Lib.frozen_of_heap h 2⟩
theorem set3L {w : World} {g : Nat} {a b c x y z : Value} {t : TypeId} (h : w.heap[g]? = some (.cells #[a, b, c] t (0, 0))) : (((w.setCell ⟨g, 0, none⟩ x).setCell ⟨g, 1, none⟩ y).setCell ⟨g, 2, none⟩ z).heap[g]? = some (.cells #[x, y, z] t (0, 0)) := by
  simp [World.setCell, Array.getElem?_modify, h]
/-- The class of the j-th one met. -/
def clM (C : List Int) (met : List Nat) (j : Nat) : Int := gi C (met.getD j 0)
theorem mapD_snoc {C : List Int} {met : List Nat} {t : Nat} : mapD (clM C (met ++ [t])) (met ++ [t]).length = (mapD (clM C met) met.length).put (.int .i64 (gi C t)) (.lit (.int .i64 (met.length : Int))) := by
  rw [List.length_append, List.length_singleton]
  show (mapD (clM C (met ++ [t])) met.length).put (.int .i64 (clM C (met ++ [t]) met.length)) _ = _
  have e1 : clM C (met ++ [t]) met.length = gi C t := by
    unfold clM
    rw [List.getD_eq_getElem?_getD]; simp
  rw [e1, mapD_congr (g := clM C met) met.length fun j hj => by unfold clM; rw [getD_app hj]]
theorem zeroI (w : World) : (zeroValue 3).run Tryz.prog w = .ok (.int .i64 0) w := by kernel_rfl
theorem wf_small {a : Int} (h : 0 ≤ a ∧ a ≤ 1000000) : (Lit.int .i64 a).wf = true := by
  have e1 : IntKind.i64.min = -9223372036854775808 := rfl
  have e2 : IntKind.i64.max = 9223372036854775807 := rfl
  simp only [Lit.wf, e1, e2, Bool.and_eq_true, decide_eq_true_eq]
  omega
theorem info_boolL : (Tryz.prog.info? 4).map (fun i => (i.zero, i.size, i.bytes)) = some (some (.bool false), 1, 1) := by kernel_rfl
noncomputable abbrev PE : Value → Option (DataW Unit × List MemPlace) := plainElem Tryz.prog 3
/-- What Of has in memory behind a rounds: what is still to be looked at, the machine that is being made, the map. -/
structure OfR (M : Mc) (C : List Int) (wo : World) (gO D a : Nat) (q : List Nat) (R : List (List Int)) (T : List Bool) (vq vN vT : Value) (ok : Nat → Prop) (w : World) : Prop where
  que : OwnQ w D 3 vq ((q.drop a).map fun x : Nat => (x : Int))
  out : w.heap[gO]? = some (.cells #[S M.sg, vN, vT] 25 (0, 0))
  rows : KZ w D vN R ok
  tks : w.ownsRow D 4 1 vT (T.map Value.bool).length (T.map Value.bool)
  map : w.ownsMap Tryz.prog 3 PE (gO + 1) q.length (mapD (clM C q) q.length)
  low : Below gO wo w
  ne : ∀ b, vq.ownBlock = some b → ¬ ok b
  lt : gO + 2 = D

theorem row_snoc {E rw_ : List Int} {s d ix : Nat} (h : E.length = s ∧ ∀ e, e < d → gi E e = gi rw_ e) (hd : d < s) (hl : rw_.length = d) : (E.set d (ix : Int)).length = s ∧ ∀ e, e < d + 1 → gi (E.set d (ix : Int)) e = gi (rw_ ++ [(ix : Int)]) e := by
  refine ⟨by rw [List.length_set]; exact h.1, fun e he => ?_⟩
  by_cases hed : e = d
  · subst hed
    rw [gi_set_self (by rw [h.1]; exact hd)]
    unfold gi
    rw [← hl]; simp
  · rw [gi_set_ne (fun x => hed x.symm), h.2 e (by omega)]
    unfold gi
    rw [List.getElem?_append_left (by omega)]
theorem grown_setJ (w : World) (g i : Nat) (u : Value) : w.grownBy (w.setCell ⟨g, i, none⟩ u) (some g) :=
  ⟨rfl, rfl, rfl, by simp [World.setCell], fun k _ hk => Below.heap_setCell _ _ _ _ (fun e => hk (by simp [e]))⟩
theorem set_at2 {w : World} {g : Nat} {a b c z : Value} {t : TypeId} (h : w.heap[g]? = some (.cells #[a, b, c] t (0, 0))) : (w.setCell ⟨g, 2, none⟩ z).heap[g]? = some (.cells #[a, b, z] t (0, 0)) := by
  simp [World.setCell, Array.getElem?_modify, h]
theorem set_at1 {w : World} {g : Nat} {a b c z : Value} {t : TypeId} (h : w.heap[g]? = some (.cells #[a, b, c] t (0, 0))) : (w.setCell ⟨g, 1, none⟩ z).heap[g]? = some (.cells #[a, z, c] t (0, 0)) := by
  simp [World.setCell, Array.getElem?_modify, h]
section
variable {M : Mc} {C : List Int} {wo : World} {gO D a : Nat} {q : List Nat} {R : List (List Int)} {T : List Bool} {vq vN vT : Value} {ok ok' : Nat → Prop} {w w' : World}
theorem OwnQ.typed {base : Nat} {e : TypeId} {v : Value} {xs : List Int} (h : OwnQ w base e v xs) {k : Nat} (hk : v.ownBlock = some k) : ∃ cur, w.heap[k]? = some (.cells cur e (0, 0)) := by
  obtain ⟨g, off, cap, cur, rfl, h1, h2, _⟩ := h
  obtain rfl : g = k := by simpa [Value.ownBlock] using hk
  exact ⟨cur, h2⟩
theorem OwnQ.some {base : Nat} {e : TypeId} {v : Value} {xs : List Int} (h : OwnQ w base e v xs) : ∃ k, v.ownBlock = some k := by
  obtain ⟨g, off, cap, cur, rfl, _⟩ := h
  exact ⟨g, rfl⟩
theorem ty_ne {k : Nat} {cs cs' : Array Value} {t t' : TypeId} {fr fr' : Nat × Nat} (h : w.heap[k]? = some (.cells cs t fr)) (h' : w.heap[k]? = some (.cells cs' t' fr')) (hne : t ≠ t') : False := by
  rw [h] at h'
  injection h' with h'; injection h' with _ h' _
  exact hne h'
/-- A step that turns one block only, none of its parts' (the queue, the rows, the truths, the map, the machine): all stays. -/
theorem OfR.other {row : Option Nat} (h : OfR M C wo gO D a q R T vq vN vT ok w) (hg : w.grownBy w' row) (hr : ∀ k, row = some k → D ≤ k ∧ vq.ownBlock ≠ some k ∧ vN.ownBlock ≠ some k ∧ vT.ownBlock ≠ some k ∧ (∀ cur : Array Value, w.heap[k]? = some (.cells cur 3 (0, 0)) → ¬ ok k)) : OfR M C wo gO D a q R T vq vN vT ok w' := by
  have hD := h.lt
  have hlt : gO < w.heap.size := (Array.getElem?_eq_some_iff.1 h.out).1
  refine ⟨h.que.kept hg ?_, (hg.block gO hlt fun e => by have := (hr gO e.symm).1; omega).trans h.out, h.rows.grown hg (fun k hk _ _ => (hr k hk).2.2.1) (fun k cur hk _ hc => (hr k hk).2.2.2.2 cur hc), h.tks.kept hg ?_, h.map.kept hg ?_, h.low.grown hg (by have := h.low.size; omega) (fun k hk => by have := (hr k hk).1; omega), h.ne, h.lt⟩
  · obtain ⟨k, hk⟩ := h.que.some
    rw [hk]
    intro e
    exact (hr k e.symm).2.1 hk
  · cases hv : vT.ownBlock with
    | none => exact .inl rfl
    | some k =>
      right
      rw [← hv]
      intro e
      rw [hv] at e
      exact (hr k e.symm).2.2.2.1 hv
  · intro e
    have := (hr (gO + 1) e.symm).1
    omega
theorem OfR.alloc (h : OfR M C wo gO D a q R T vq vN vT ok w) (o : Obj) : OfR M C wo gO D a q R T vq vN vT ok (w.alloc o) := h.other (World.grownBy_alloc w o none) (fun k hk => by cases hk)
theorem OfR.drewN (h : OfR M C wo gO D a q R T vq vN vT ok w) (n : Nat) : OfR M C wo gO D a q R T vq vN vT ok (w.drewN n) :=
  ⟨h.que, h.out, h.rows, h.tks, h.map, below_drewN h.low n, h.ne, h.lt⟩
theorem OfR.weak (h : OfR M C wo gO D a q R T vq vN vT ok w) (hw : ∀ b, b < w.heap.size → ok b → ok' b) (hn : ∀ b, vq.ownBlock = some b → ¬ ok' b) : OfR M C wo gO D a q R T vq vN vT ok' w :=
  ⟨h.que, h.out, h.rows.weak hw, h.tks, h.map, h.low, hn, h.lt⟩
/-- One truth more. -/
theorem OfR.addT {v' : Value} {b : Bool} {w6 : World} (h : OfR M C wo gO D a q R T vq vN vT ok w) (hgr : w.grownBy w6 vT.ownBlock) (hl : v'.ownBlock = vT.ownBlock ∨ ∃ g, v'.ownBlock = some g ∧ w.heap.size ≤ g)
    (hown : w6.ownsRow D 4 1 v' ((T ++ [b]).map Value.bool).length ((T ++ [b]).map Value.bool)) : OfR M C wo gO D a q R (T ++ [b]) vq vN v' ok (w6.setCell ⟨gO, 2, none⟩ v') := by
  have hD := h.lt
  have hlt : gO < w.heap.size := (Array.getElem?_eq_some_iff.1 h.out).1
  have hTk : ∀ k, vT.ownBlock = some k → D ≤ k ∧ ∃ cs fr, w.heap[k]? = some (.cells cs 4 fr) := fun k hk => ⟨own_lt h.tks hk, by
    rcases h.tks.2 with ⟨rfl, _⟩ | ⟨g, cap, cur, rfl, _, hg, _⟩
    · cases hk
    · obtain rfl : g = k := by injection hk
      exact ⟨_, _, hg⟩⟩
  have ho6 : w6.heap[gO]? = some (.cells #[S M.sg, vN, vT] 25 (0, 0)) := (hgr.block gO hlt fun e => by have := (hTk gO e.symm).1; omega).trans h.out
  have hs6 := hgr.size
  have hq6 : OwnQ w6 D 3 vq ((q.drop a).map fun x : Nat => (x : Int)) := h.que.kept hgr (by
    obtain ⟨k, hk⟩ := h.que.some
    rw [hk]
    intro e
    obtain ⟨cur, hc⟩ := h.que.typed hk
    obtain ⟨_, cs, fr, hb⟩ := hTk k e.symm
    exact ty_ne hc hb (by decide))
  have hN6 : KZ w6 D vN R ok := h.rows.grown hgr (fun k hk _ _ hv => by
    obtain ⟨cs, fr, hc⟩ := h.rows.type hv
    obtain ⟨_, cs', fr', hb⟩ := hTk k hk
    exact ty_ne hc hb (by decide)) (fun k cur hk _ hc => by
    obtain ⟨_, cs', fr', hb⟩ := hTk k hk
    exact absurd (ty_ne hc hb (by decide)) id)
  have hm6 := h.map.kept hgr (fun e => by have := (hTk (gO + 1) e.symm).1; omega)
  have hl6 := h.low.grown hgr (by have := h.low.size; omega) (fun k hk => by have := (hTk k hk).1; omega)
  have hst := grown_setJ w6 gO 2 v'
  refine ⟨hq6.kept hst ?_, set_at2 ho6, hN6.grown hst (fun k hk hd _ => by injection hk with hk; omega) (fun k cur hk hd _ => by injection hk with hk; omega), hown.kept hst ?_, hm6.kept hst (by intro e; injection e with e; omega), hl6.setCell (p := ⟨gO, 2, none⟩) (Nat.le_refl _) _, h.ne, h.lt⟩
  · obtain ⟨k, hk⟩ := h.que.some
    have := (h.que.lt hk).1
    rw [hk]; intro e; injection e with e; omega
  · cases hv : v'.ownBlock with
    | none => exact .inl rfl
    | some k =>
      right
      rw [← hv]; intro e; rw [hv] at e; injection e with e
      have := own_lt hown hv
      omega
/-- One state more is met: the map's entry, and the queue's. -/
theorem OfR.addQ {P : Nat → Prop} {vq' : Value} {t : Nat} {wy wz : World} (h : OfR M C wo gO D a q R T vq vN vT (fun b => vq.ownBlock ≠ some b ∧ P b) w) (ha : a ≤ q.length)
    (hg1 : w.grownBy wy (some (gO + 1))) (hmap : wy.ownsMap Tryz.prog 3 PE (gO + 1) (q.length + 1) ((mapD (clM C q) q.length).put (.int .i64 (gi C t)) (.lit (.int .i64 (q.length : Int)))))
    (hg2 : wy.grownBy wz vq.ownBlock) (hl : vq'.ownBlock = vq.ownBlock ∨ ∃ g, vq'.ownBlock = some g ∧ wy.heap.size ≤ g) (hq : OwnQ wz D 3 vq' ((q.drop a).map (fun x : Nat => (x : Int)) ++ [(t : Int)])) :
    OfR M C wo gO D a (q ++ [t]) R T vq' vN vT (fun b => vq'.ownBlock ≠ some b ∧ P b) wz := by
  have hD := h.lt
  have hlt : gO < w.heap.size := (Array.getElem?_eq_some_iff.1 h.out).1
  have hs1 := hg1.size
  have hQk : ∀ k, vq.ownBlock = some k → D ≤ k ∧ k < w.heap.size ∧ ∃ cur, w.heap[k]? = some (.cells cur 3 (0, 0)) := fun k hk => ⟨(h.que.lt hk).1, (h.que.lt hk).2, h.que.typed hk⟩
  have hQy : ∀ k, vq.ownBlock = some k → ∃ cur, wy.heap[k]? = some (.cells cur 3 (0, 0)) := fun k hk => by
    obtain ⟨h1, h2, cur, hc⟩ := hQk k hk
    exact ⟨cur, (hg1.block k h2 (by intro e; injection e with e; omega)).trans hc⟩
  have hNy : KZ wy D vN R (fun b => vq.ownBlock ≠ some b ∧ P b) := h.rows.grown hg1 (fun k hk hd _ => by injection hk with hk; omega) (fun k cur hk hd _ => by injection hk with hk; omega)
  have hNy3 : KZ wy D vN R (fun b => vq.ownBlock ≠ some b ∧ P b ∧ vq'.ownBlock ≠ some b) := hNy.weak fun b hb hok => ⟨hok.1, hok.2, by
    rcases hl with e | ⟨g, e, hg⟩
    · rw [e]; exact hok.1
    · rw [e]; intro e2; injection e2 with e2; omega⟩
  have hNz : KZ wz D vN R (fun b => vq.ownBlock ≠ some b ∧ P b ∧ vq'.ownBlock ≠ some b) := hNy3.grown hg2 (fun k hk _ _ hv => by
    obtain ⟨cs, fr, hc⟩ := hNy.type hv
    obtain ⟨cur, hb⟩ := hQy k hk
    exact ty_ne hc hb (by decide)) (fun k cur hk _ _ hok => hok.1 hk)
  have hTy : wy.ownsRow D 4 1 vT (T.map Value.bool).length (T.map Value.bool) := h.tks.kept hg1 (by
    cases hv : vT.ownBlock with
    | none => exact .inl rfl
    | some k =>
      right
      rw [← hv]; intro e; rw [hv] at e; injection e with e
      have := own_lt h.tks hv
      omega)
  have hTz := hTy.kept hg2 (by
    cases hv : vT.ownBlock with
    | none => exact .inl rfl
    | some k =>
      right
      rw [← hv]; intro e; rw [hv] at e
      obtain ⟨cur, hb⟩ := hQy k e.symm
      rcases hTy.2 with ⟨rfl, _⟩ | ⟨g, cap, cu, rfl, _, hgg, _⟩
      · cases hv
      · obtain rfl : g = k := by injection hv
        exact ty_ne hgg hb (by decide))
  have hoy : wy.heap[gO]? = some (.cells #[S M.sg, vN, vT] 25 (0, 0)) := (hg1.block gO hlt (by intro e; injection e with e; omega)).trans h.out
  refine ⟨?_, (hg2.block gO (by omega) (fun e => by have := (hQk gO e.symm).1; omega)).trans hoy, ?_, hTz, ?_, (h.low.grown hg1 (by have := h.low.size; omega) (fun k hk => by injection hk with hk; omega)).grown hg2 (by have := h.low.size; omega) (fun k hk => by have := (hQk k hk).1; omega), fun b hb hok => hok.1 hb, h.lt⟩
  · rw [List.drop_append_of_le_length ha, List.map_append]; exact hq
  · exact hNz.weak fun b _ hok => ⟨hok.2.2, hok.2.1⟩
  · rw [mapD_snoc, List.length_append, List.length_singleton]
    exact hmap.kept hg2 (by
      obtain ⟨k, hk⟩ := h.que.some
      have := (hQk k hk).1
      rw [hk]; intro e; injection e with e; omega)
/-- A store into the row that is being made. -/
theorem OfR.setR {gR k : Nat} {cs : List Value} {u : Value} (h : OfR M C wo gO D a q R T vq vN vT (fun b => vq.ownBlock ≠ some b ∧ b ≠ gR) w) (hb : Blk w gR 3 cs) (hD : D ≤ gR) (hq : vq.ownBlock ≠ some gR) :
    OfR M C wo gO D a q R T vq vN vT (fun b => vq.ownBlock ≠ some b ∧ b ≠ gR) (w.setCell ⟨gR, k, none⟩ u) := by
  refine h.other (grown_setJ w gR k u) fun k' hk => ?_
  injection hk with hk
  subst hk
  refine ⟨hD, hq, fun e => ?_, fun e => ?_, fun cur _ hok => hok.2 rfl⟩
  · obtain ⟨cs', fr, hc⟩ := h.rows.type e
    exact ty_ne hb hc (by decide)
  · rcases h.tks.2 with ⟨rfl, _⟩ | ⟨g, cap, cu, rfl, _, hgg, _⟩
    · cases e
    · obtain rfl : g = gR := by injection e
      exact ty_ne hb hgg (by decide)
/-- One row more. -/
theorem OfR.addN {gk m cap : Nat} {K : List Int} {cu : Array Value} {KC : List Value} {v' : Value} {w6 : World} (h : OfR M C wo gO D a q R T vq vN vT ok w) (h1 : KC.length = R.length)
    (h3 : ∀ j, j < R.length → ∃ b m c cur, KC[j]? = some (.slice (some ⟨b, 0, none⟩) m c) ∧ D ≤ b ∧ ok b ∧ w.heap[b]? = some (.cells cur 3 (0, 0)) ∧ (ro R j).length = m ∧ ∀ d, d < m → cur[d]? = some (.int .i64 (gi (ro R j) d)))
    (hg1 : D ≤ gk) (hok : ok gk) (hk : w.heap[gk]? = some (.cells cu 3 (0, 0))) (hK : K.length = m) (hc : ∀ d, d < m → cu[d]? = some (.int .i64 (gi K d)))
    (hgr : w.grownBy w6 vN.ownBlock) (hown : w6.ownsRow D 44 1 v' (KC ++ [Value.slice (some ⟨gk, 0, none⟩) m cap]).length (KC ++ [Value.slice (some ⟨gk, 0, none⟩) m cap])) :
    OfR M C wo gO D a q (R ++ [K]) T vq v' vT ok (w6.setCell ⟨gO, 1, none⟩ v') := by
  have hD := h.lt
  have hlt : gO < w.heap.size := (Array.getElem?_eq_some_iff.1 h.out).1
  have hs6 := hgr.size
  have hNk : ∀ k, vN.ownBlock = some k → D ≤ k ∧ ∃ cs fr, w.heap[k]? = some (.cells cs 44 fr) := fun k hk => ⟨(h.rows.lt hk).1, h.rows.type hk⟩
  have hN6 : KZ w6 D v' (R ++ [K]) ok := KZ.snoc h1 h3 hg1 hok hk hK hc (fun k hk => (hNk k hk).2) hown hgr
  have ho6 : w6.heap[gO]? = some (.cells #[S M.sg, vN, vT] 25 (0, 0)) := (hgr.block gO hlt fun e => by have := (hNk gO e.symm).1; omega).trans h.out
  have hq6 : OwnQ w6 D 3 vq ((q.drop a).map fun x : Nat => (x : Int)) := h.que.kept hgr (by
    obtain ⟨k, hk⟩ := h.que.some
    rw [hk]
    intro e
    obtain ⟨cur, hc⟩ := h.que.typed hk
    obtain ⟨_, cs, fr, hb⟩ := hNk k e.symm
    exact ty_ne hc hb (by decide))
  have hT6 := h.tks.kept hgr (by
    cases hv : vT.ownBlock with
    | none => exact .inl rfl
    | some k =>
      right
      rw [← hv]; intro e; rw [hv] at e
      obtain ⟨_, cs, fr, hb⟩ := hNk k e.symm
      rcases h.tks.2 with ⟨rfl, _⟩ | ⟨g, cap, cu, rfl, _, hgg, _⟩
      · cases hv
      · obtain rfl : g = k := by injection hv
        exact ty_ne hgg hb (by decide))
  have hm6 := h.map.kept hgr (fun e => by have := (hNk (gO + 1) e.symm).1; omega)
  have hl6 := h.low.grown hgr (by have := h.low.size; omega) (fun k hk => by have := (hNk k hk).1; omega)
  have hst := grown_setJ w6 gO 1 v'
  refine ⟨hq6.kept hst ?_, set_at1 ho6, hN6.grown hst (fun k hk hd _ => by injection hk with hk; omega) (fun k cur hk hd _ => by injection hk with hk; omega), hT6.kept hst ?_, hm6.kept hst (by intro e; injection e with e; omega), hl6.setCell (p := ⟨gO, 1, none⟩) (Nat.le_refl _) _, h.ne, h.lt⟩
  · obtain ⟨k, hk⟩ := h.que.some
    have := (h.que.lt hk).1
    rw [hk]; intro e; injection e with e; omega
  · cases hv : vT.ownBlock with
    | none => exact .inl rfl
    | some k =>
      right
      rw [← hv]; intro e; rw [hv] at e; injection e with e
      have := own_lt h.tks hv
      omega
/-- The first one of the queue is done with. -/
theorem OfR.pop {g off cap n x : Nat} {xs : List Int} (h : OfR M C wo gO D a q R T (.slice (some ⟨g, off, none⟩) (n + 1) cap) vN vT (fun b => (Value.slice (some ⟨g, off, none⟩) (n + 1) cap).ownBlock ≠ some b) w) (hq : q.drop a = x :: q.drop (a + 1)) (hx : (q.drop (a + 1)).map (fun x : Nat => (x : Int)) = xs) (hn : xs.length = n) :
    OfR M C wo gO D (a + 1) q R T (.slice (if cap = 1 then some ⟨g, off, none⟩ else some ⟨g, off + 1, none⟩) n (cap - 1)) vN vT (fun b => (Value.slice (if cap = 1 then some ⟨g, off, none⟩ else some ⟨g, off + 1, none⟩) n (cap - 1)).ownBlock ≠ some b) w := by
  have hb : (Value.slice (if cap = 1 then some ⟨g, off, none⟩ else some ⟨g, off + 1, none⟩) n (cap - 1)).ownBlock = some g := by split <;> rfl
  have hque := h.que
  rw [hq, List.map_cons, hx] at hque
  subst hn
  refine ⟨by rw [hx]; exact hque.tail, h.out, h.rows.weak fun b _ hok => by rw [hb]; exact hok, h.tks, h.map, h.low, fun b hbb hok => hok hbb, h.lt⟩
end
theorem bls_of_own {w : World} {D : Nat} {A : Option Addr} {n c : Nat} {T : List Bool} (h : w.ownsRow D 4 1 (.slice A n c) (T.map Value.bool).length (T.map Value.bool)) (hn : n = T.length) : Bls w w.heap.size A n T := by
  refine ⟨hn.symm, fun hp => ?_⟩
  rcases h.2 with ⟨e, h0⟩ | ⟨g, cap, cur, e, hg, hh, _, _, _, htake⟩
  · rw [List.length_map] at h0; omega
  · injection e with e1 e2 e3
    subst e1
    refine ⟨g, 0, rfl, (Array.getElem?_eq_some_iff.1 hh).1, fun j hj => ?_⟩
    have := h.cells (g := g) rfl j (.bool (bo T j)) (by rw [List.getElem?_map]; unfold bo; rw [List.getElem?_eq_getElem (by omega)]; rfl)
    rw [Nat.zero_add]
    rwa [Addr.add_lit, Nat.zero_add] at this
end Go.Proofs.YtchhbnnpannnhaaGreatDoor

namespace Go.Proofs.YtchhbnnpannnhaaGreatDoor
open Go.RowKit Go.Maps
set_option linter.unusedVariables false
set_option linter.unusedSimpArgs false
attribute [local go_sem] byte_at str_app

theorem gi_zs {L : List Nat} {k x : Nat} (h : L[k]? = some x) : gi (zs L) k = (x : Int) := by
  obtain ⟨hk, rfl⟩ := List.getElem?_eq_some_iff.1 h
  rw [gi_eq (by simpa using hk)]; simp
theorem mem_zs {L : List Nat} {x : Nat} : ((x : Int) ∈ zs L) ↔ x ∈ L := by
  constructor
  · intro h
    obtain ⟨j, hj, e⟩ := List.mem_map.1 h
    obtain rfl : j = x := by omega
    exact hj
  · intro h; exact List.mem_map.2 ⟨x, h, rfl⟩
theorem nxN_nil {s : List UInt8} {t : Pt} (h : par s = some t) {x : Nat} (hx : x < (leaves t).length) (hn : nxN (leaves t).length t x = []) : x ∈ lsP t := by
  rcases co_acc h hx with h1 | ⟨j, hj⟩
  · exact h1
  · obtain ⟨q1, q2⟩ := par_leaves h
    have hs := (sm_fs (Sm.of_num q2 (Nat.le_of_eq (by rw [q1])) : Sm (leaves t).length t)).2.2 x j hj
    have : j ∈ nxN (leaves t).length t x := by unfold nxN; rw [List.mem_filter]; exact ⟨List.mem_range.2 hs.2, decide_eq_true hj⟩
    rw [hn] at this; cases this
def endQ (t : Pt) (c : UInt8) (x : Nat) : Bool := decide (bu (leaves t) x = c) && decide (x ∈ lsP t)
theorem any_step {L : List Nat} (q : Nat → Bool) {k x : Nat} (h : L[k]? = some x) : (L.take (k + 1)).any q = ((L.take k).any q || q x) := by
  rw [List.take_add_one, h, List.any_append]; simp
end Go.Proofs.YtchhbnnpannnhaaGreatDoor

namespace Go.Proofs.YtchhbnnpannnhaaGreatDoor
open Go.RowKit IntWalk Go.Maps
set_option linter.unusedSimpArgs false
set_option linter.unusedVariables false
attribute [local go_sem] byte_at str_app
attribute [local go_sem ↓] Go.wp_at_zero Go.wp_at_succ

set_option maxRecDepth 100000 in
set_option maxHeartbeats 4000000 in
theorem signsOf_any (s : List UInt8) (w : World) (h9 : s.length ≤ 1000) :
    Calls Tryz.prog 30 #[S s] w fun e w' => (∃ v, e = .returned v ∧ OwnB w' w.heap.size v (lets s)) ∧ Below w.heap.size w w' := by
  obtain ⟨i0, hi0, hz0, hz1, hz2⟩ := info_parts info_byteL
  obtain ⟨cap, W0, hcv, hB7, hz7, hc7⟩ := conv_str s w
  have HC := Lib.hid hc7
  have HB := Lib.hid hB7
  have HZ := Lib.hid hz7
  have HAL : Hid (lets s = lets (s.take s.length)) := Lib.hid (by rw [List.take_length])
  clear hB7 hz7 hc7
  go_enter Tryz.func30, Tryz.ntmps30
  go_wp2_with fail
  clear hcv
  go_loopw [3, 9] (fun ov kv wr => ∃ (k : Nat), kv = .int .i64 (k : Int) ∧ k ≤ s.length ∧ Hid (OwnB wr W0.heap.size ov (lets (s.take k))) ∧ Hid (Below W0.heap.size W0 wr)) (fun _ kv _ => s.length - (intOf kv).toNat)
  case atStart => exact ⟨0, rfl, Nat.zero_le _, Lib.hid (World.ownsRow_nil _ _ _ _), Lib.hid (Below.refl _ _)⟩
  case round =>
    obtain ⟨k, rfl, hk9, HO, HBW⟩ := hrel
    have hz := HZ.out
    by_cases hk : k < s.length
    · have hst := lets_step hk
      have hll := lets_len (s.take k)
      rw [List.length_take] at hll
      have hc := (HBW.out.cell (p := ⟨w.heap.size, k, none⟩) (show w.heap.size < W0.heap.size by omega)).trans (HC.out k hk)
      have p1 : (k : Int) < (s.length : Int) := by omega
      have p3 : IntKind.i64.wrap ((k : Int) + 1) = (k : Int) + 1 := i64_in _ (by omega)
      have HLN := Lib.hid hll
      generalize lets (s.take k) = o at *
      clear hll
      generalize hcc : bu s k = cc at *
      by_cases ha : 97 ≤ cc.toNat
      · have q1 : (97 : Int) ≤ (cc.toNat : Int) := by omega
        by_cases hb : cc.toNat ≤ 122
        · have q2 : (cc.toNat : Int) ≤ 122 := by omega
          have HS : Hid (lets (s.take (k + 1)) = o ++ [cc]) := Lib.hid (by rw [hst, if_pos]; unfold isLo; exact decide_eq_true ⟨UInt8.le_iff_toNat_le.2 ha, UInt8.le_iff_toNat_le.2 hb⟩)
          clear hst
          go_wp2_with (at_builtin; refine wpList_append1 rfl (.tmp 19) (.tmp 21) _ rfl 5 i0 _ Tryz.underlying64 hi0 hz0 hz1 (by omega) rfl W0.heap.size _ (bcells o) (.int .u8 (cc.toNat : Int)) rfl rfl rfl (by have h := HO.out; unfold OwnB at h; rwa [← bcells_len o] at h) (by have := HLN.out; rw [bcells_len]; omega) HBW.out.size ?_; intro v' w' hown' hbl'; have HO2 := Lib.hid hown'; have HB2 := Lib.hid (HBW.out.trans hbl'); clear hown' hbl'; go_frame)
          go_roundw
          case rel =>
            refine ⟨k + 1, by go_num, by omega, ?_, HB2⟩
            rw [HS.out]
            refine Lib.hid ?_
            have h := HO2.out
            have e : (o ++ [cc]).length = (bcells o ++ [Value.int .u8 (cc.toNat : Int)]).length := by simp [bcells_len]
            unfold OwnB
            rw [bcells_app, e]; exact h
          case measure => simp [intOf]; omega
        · have q2 : ¬ (cc.toNat : Int) ≤ 122 := by omega
          have HS : Hid (lets (s.take (k + 1)) = o) := Lib.hid (by rw [hst, if_neg]; unfold isLo; intro h; exact hb (UInt8.le_iff_toNat_le.1 (of_decide_eq_true h).2))
          clear hst
          go_wp2_with fail
          go_roundw
          case rel => exact ⟨k + 1, by go_num, by omega, by rw [HS.out]; exact HO, HBW⟩
          case measure => simp [intOf]; omega
      · have q1 : ¬ (97 : Int) ≤ (cc.toNat : Int) := by omega
        have HS : Hid (lets (s.take (k + 1)) = o) := Lib.hid (by rw [hst, if_neg]; unfold isLo; intro h; exact ha (UInt8.le_iff_toNat_le.1 (of_decide_eq_true h).1))
        clear hst
        go_wp2_with fail
        go_roundw
        case rel => exact ⟨k + 1, by go_num, by omega, by rw [HS.out]; exact HO, HBW⟩
        case measure => simp [intOf]; omega
    · obtain rfl : k = s.length := by omega
      go_wp2_with fail
      go_ret
      refine ⟨⟨_, rfl, ?_⟩, HB.out.trans (HBW.out.mono HB.out.size)⟩
      rw [HAL.out]
      exact own_base HO.out HB.out.size

/-- What the closure adds to a set. -/
def flw (lv : List UInt8) (c : UInt8) (T : Nat) (L : List Nat) : Nat := L.foldl (fun T j => if bu lv j = c then T ||| 2 ^ j else T) T
theorem flw_snoc (lv : List UInt8) (c : UInt8) (T : Nat) (L : List Nat) (j : Nat) : flw lv c T (L ++ [j]) = if bu lv j = c then flw lv c T L ||| 2 ^ j else flw lv c T L := by
  unfold flw; rw [List.foldl_append]; rfl
theorem flw_bit (lv : List UInt8) (c : UInt8) (i : Nat) : ∀ (L : List Nat) (T : Nat), (flw lv c T L).testBit i = (T.testBit i || decide (i ∈ L ∧ bu lv i = c))
  | [], T => by simp [flw]
  | j :: L, T => by
    show (flw lv c (if bu lv j = c then T ||| 2 ^ j else T) L).testBit i = _
    rw [flw_bit lv c i L]
    by_cases h : bu lv j = c
    · rw [if_pos h, Nat.testBit_or, Nat.testBit_two_pow]
      by_cases e : j = i
      · subst e; simp [h]
      · have e' : ¬ i = j := fun x => e x.symm
        simp [e, e']
    · rw [if_neg h]
      by_cases e : i = j
      · subst e; simp [h]
      · simp [e]
theorem flw_lt {lv : List UInt8} {c : UInt8} {n : Nat} : ∀ {L : List Nat} {T : Nat}, T < 2 ^ n → (∀ j ∈ L, j < n) → flw lv c T L < 2 ^ n
  | [], T, hT, _ => hT
  | j :: L, T, hT, hL => by
    show flw lv c (if bu lv j = c then T ||| 2 ^ j else T) L < 2 ^ n
    refine flw_lt ?_ fun x hx => hL x (by simp [hx])
    split
    · exact Nat.or_lt_two_pow hT (Nat.pow_lt_pow_right (by omega) (hL j (by simp)))
    · exact hT
theorem pow_cast (x : Nat) : (2 : Int) ^ x = ((2 ^ x : Nat) : Int) := by simp
theorem pow_small {x : Nat} (h : x < 21) : (2 : Nat) ^ x < 2097152 := Nat.lt_of_lt_of_le (Nat.pow_lt_pow_right (by omega) h) (by decide)
theorem wrap_pow {x : Nat} (h : x < 21) : wrap64 ((2 : Int) ^ x) = ((2 ^ x : Nat) : Int) := by
  rw [pow_cast]
  have := pow_small h
  generalize 2 ^ x = y at *
  unfold wrap64; omega
theorem wrap_sml (n : Int) (h0 : 0 ≤ n) (h1 : n < 2 ^ 21) : IntKind.i64.wrap n = n := IntWalk.i64_in _ (by omega)
theorem or_i64 {a b : Nat} (ha : a < 2097152) (hb : b < 2097152) : bits .or .i64 (a : Int) (b : Int) = ((a ||| b : Nat) : Int) := (bits_nat .i64 21 (by decide) wrap_sml a b ha hb).2
theorem and_i64 {a b : Nat} (ha : a < 2097152) (hb : b < 2097152) : bits .and .i64 (a : Int) (b : Int) = ((a &&& b : Nat) : Int) := (bits_nat .i64 21 (by decide) wrap_sml a b ha hb).1
theorem or_sh {U x : Nat} (hU : U < 2 ^ 12) (hx : x < 21) : bits .or .i64 (U : Int) (wrap64 (2 ^ x)) = ((U ||| 2 ^ x : Nat) : Int) := by
  rw [wrap_pow hx]
  exact or_i64 (by omega) (pow_small hx)
/-- All but one block stay. -/
theorem Fr1.drewN {r : Nat} {a b : World} (h : Fr1 r a b) (n : Nat) : Fr1 r a (b.drewN n) := ⟨h.os, h.tape, h.output, h.size, h.block⟩
set_option maxRecDepth 100000 in
set_option maxHeartbeats 4000000 in
theorem follow_any (A : Option Addr) (m c0 B : Nat) (L : List Nat) (A1 : Option Addr) (c1 gA gc gt T : Nat) (lv : List UInt8) (c : UInt8) (w : World) (hL : Ints w B A m (zs L)) (hn : ∀ x ∈ L, x < lv.length) (h12 : lv.length ≤ 12)
    (hA : w.cell? ⟨gA, 0, none⟩ = some (.slice A1 lv.length c1)) (hl : ∀ i, i < lv.length → ∃ gs, A1 = some ⟨gs, 0, none⟩ ∧ gs ≠ gt ∧ w.cell? ⟨gs, i, none⟩ = some (.int .u8 ((bu lv i).toNat : Int)))
    (hc : w.cell? ⟨gc, 0, none⟩ = some (.int .u8 (c.toNat : Int))) (ht : Blk w gt 3 [.int .i64 (T : Int)]) (hT : T < 2 ^ 12) (h1 : gA ≠ gt) (h2 : gc ≠ gt) (h3 : B ≤ gt) (hm : m ≤ 100000) :
    Calls Tryz.prog 31 #[.slice A m c0, .pointer (some ⟨gA, 0, none⟩), .pointer (some ⟨gc, 0, none⟩), .pointer (some ⟨gt, 0, none⟩)] w fun e w' => e = .returned (.tuple #[]) ∧ Blk w' gt 3 [.int .i64 (flw lv c T L : Int)] ∧ Fr1 gt w w' := by
  have hm2 : L.length = m := by have := hL.1; simpa using this
  have HFX : Hid (∀ W, Fr1 gt w W → Ints W B A m (zs L) ∧ W.cell? ⟨gA, 0, none⟩ = some (.slice A1 lv.length c1) ∧ (∀ i, i < lv.length → ∃ gs, A1 = some ⟨gs, 0, none⟩ ∧ W.cell? ⟨gs, i, none⟩ = some (.int .u8 ((bu lv i).toNat : Int))) ∧ W.cell? ⟨gc, 0, none⟩ = some (.int .u8 (c.toNat : Int))) := Lib.hid (fun W hf => by
    have cellW : ∀ b o, b ≠ gt → ∀ v, w.cell? ⟨b, o, none⟩ = some v → W.cell? ⟨b, o, none⟩ = some v := fun b o hb v hv => (World.cell?_of_block (a := ⟨b, o, none⟩) (hf.block b (World.block_lt_of_cell? w _ hv) hb)).trans hv
    refine ⟨⟨hL.1, fun h0 => ?_⟩, cellW _ _ h1 _ hA, fun i hi => ?_, cellW _ _ h2 _ hc⟩
    · obtain ⟨b, off, e, hb, hcc⟩ := hL.2 h0
      exact ⟨b, off, e, hb, fun j hj => cellW _ _ (by omega) _ (hcc j hj)⟩
    · obtain ⟨gs, e, hne, hcc⟩ := hl i hi
      exact ⟨gs, e, cellW _ _ hne _ hcc⟩)
  have HT0 := Lib.hid ht
  have HLN := Lib.hid hn
  clear hL hA hl hc ht hn
  go_enter Tryz.func31, Tryz.ntmps31
  go_wp2_with fail
  go_loopw [9] (fun kv wr => ∃ (k : Nat), kv = .int .i64 (k : Int) ∧ k ≤ m ∧ Hid (Blk wr gt 3 [.int .i64 (flw lv c T (L.take k) : Int)]) ∧ Hid (Fr1 gt w wr)) (fun kv _ => m - (intOf kv).toNat)
  case atStart => exact ⟨0, rfl, Nat.zero_le _, HT0, Lib.hid (Fr1.refl _ _)⟩
  case round =>
    obtain ⟨k, rfl, hkm, HT, HF⟩ := hrel
    by_cases hk : k < m
    · obtain ⟨hI, hA, hl, hc⟩ := HFX.out _ HF.out
      obtain ⟨x, hx⟩ : ∃ x, L[k]? = some x := ⟨_, List.getElem?_eq_getElem (by omega)⟩
      have hxn := HLN.out x (List.mem_of_getElem? hx)
      obtain ⟨b1, o1, rfl, hb1, hcx⟩ := hI.at_ hk
      rw [gi_zs hx] at hcx
      obtain ⟨gs, rfl, hcl⟩ := hl x hxn
      have HST : Hid (flw lv c T (L.take (k + 1)) = if bu lv x = c then flw lv c T (L.take k) ||| 2 ^ x else flw lv c T (L.take k)) := Lib.hid (by rw [List.take_add_one, hx]; exact flw_snoc _ _ _ _ _)
      have hlt : flw lv c T (L.take k) < 2 ^ 12 := flw_lt hT fun j hj => Nat.lt_of_lt_of_le (HLN.out j (List.mem_of_mem_take hj)) h12
      have hct : wr.cell? ⟨gt, 0, none⟩ = some (.int .i64 (flw lv c T (L.take k) : Int)) := HT.out.cell 0
      have hft : wr.frozen? ⟨gt, 0, none⟩ = false := HT.out.frozen 0
      have z1 : (k : Int) < (m : Int) := by omega
      have z2 : (x : Int) < (lv.length : Int) := by omega
      have z3 : IntKind.i64.wrap ((k : Int) + 1) = (k : Int) + 1 := IntWalk.i64_in _ (by omega)
      have heb : (((bu lv x).toNat : Int) == (c.toNat : Int)) = decide (bu lv x = c) := same_dec _ _
      generalize flw lv c T (L.take k) = U at *
      clear hl
      by_cases he : bu lv x = c
      · rw [decide_eq_true he] at heb
        rw [if_pos he] at HST
        clear he
        go_wp2_with fail
        go_quiet (fail)
        go_wp2_with fail
        have HBS := Lib.hid (show Blk ((wr.drewN (nq + 1)).setCell ⟨gt, 0, none⟩ (.int .i64 ((U ||| 2 ^ x : Nat) : Int))) gt 3 [.int .i64 ((U ||| 2 ^ x : Nat) : Int)] from (HT.out.drewN (nq + 1)).set_ 0 _)
        have HFS := Lib.hid ((HF.out.drewN (nq + 1)).set 0 (.int .i64 ((U ||| 2 ^ x : Nat) : Int)))
        have hor := or_sh (U := U) (x := x) hlt (by omega)
        go_region
        go_wp2_with fail
        go_roundw
        case rel => exact ⟨k + 1, by go_num, by omega, by rw [HST.out]; exact HBS, HFS⟩
        case measure => simp [intOf]; omega
      · rw [decide_eq_false he] at heb
        rw [if_neg he] at HST
        clear he
        go_wp2_with fail
        go_quiet (fail)
        go_wp2_with fail
        go_roundw
        case rel => exact ⟨k + 1, by go_num, by omega, by rw [HST.out]; exact HT, Lib.hid (HF.out.drewN _)⟩
        case measure => simp [intOf]; omega
    · obtain rfl : k = m := by omega
      have HE : Hid (flw lv c T (L.take k) = flw lv c T L) := Lib.hid (by rw [List.take_of_length_le (by omega)])
      go_wp2_with fail
      go_end0
      exact ⟨rfl, by rw [← HE.out]; exact HT.out, HF.out⟩
end Go.Proofs.YtchhbnnpannnhaaGreatDoor
