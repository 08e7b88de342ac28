/- A map from classes to numbers, as it is filled; rows of numbers of the call's own beside other memory of its own. No condition. -/
import Derived.Test.YtfglajddibjnjaaDoorLsC
import Derived.Maps.Own
import Derived.Maps.OwnSet
namespace Go.Proofs.YtfglajddibjnjaaDoor
open Go.RowKit IntWalk Go.Maps
set_option linter.unusedSimpArgs false

theorem wpList_insert_own {H : Type} {P : Program} (w : World) {ops : Array Oper} {rest : List Oper} {o : Oper} {a : Act} {Q : Exit → Act → World → Prop}
    (hg : o.guard = none) (m x v : Operand) (t : TypeId) (hop : o.op = Op.insert t m x v)
    (k e : TypeId) (K : Keyed P k) (ht : P.underlying t = some (.map k e)) (R : Value → Option (DataW H × List MemPlace)) (b n : Nat) (D : DataW H)
    (hm : a.eval m = .map (some b)) (hown : w.ownsMap P k R b n D) (hn : n < maxLen) (key val : Value) (kl : Lit) (hx : a.eval x = key) (hv : a.eval v = val) (hkey : keyOf P k key = some kl)
    (d : DataW H) (ps : List MemPlace) (hval : R val = some (d, ps))
    (hK : ∀ w', w'.ownsMap P k R b (n + 1) (D.put kl d) → w.grownBy w' (some b) → wpList P ops Q rest (a.put o.dst undef) w') :
    wpList P ops Q (o :: rest) a w := by
  refine wpList_plain hg fun K' hK' => ?_
  obtain ⟨w', hrun, r1, r2⟩ := hown.update K ht hn hkey hval
  unfold Oper.wp
  simp [execOp, hop, hm, hx, hv, hrun, Result.andThen]
  exact hK' _ _ (hK w' r1 r2)

theorem ik (a : Int) : WideAt.IsKeyLit (.int .i64 a) := trivial
/-- The map with f's first k values, each with its place. -/
def mapD (f : Nat → Int) : Nat → DataW Unit
  | 0 => .map []
  | k + 1 => (mapD f k).put (.int .i64 (f k)) (.lit (.int .i64 (k : Int)))
theorem mapD_congr {f g : Nat → Int} : ∀ k, (∀ j, j < k → f j = g j) → mapD f k = mapD g k
  | 0, _ => rfl
  | k + 1, h => by
    unfold mapD
    rw [mapD_congr k fun j hj => h j (by omega), h k (by omega)]
theorem mapD_tidy (f : Nat → Int) : ∀ k, Tidy (mapD f k)
  | 0 => tidy_empty
  | k + 1 => (mapD_tidy f k).put (ik _) _
theorem lit_ne {a b : Int} (h : a ≠ b) : Lit.int .i64 a ≠ Lit.int .i64 b := fun e => h (by injection e)
theorem mapD_has (f : Nat → Int) (x : Int) : ∀ k, Maps.has (mapD f k) (.int .i64 x) = (List.range k).any fun j => decide (f j = x)
  | 0 => rfl
  | k + 1 => by
    unfold mapD
    rw [List.range_succ, List.any_append, ← mapD_has f x k]
    by_cases h : f k = x
    · subst h
      rw [has_put_same (mapD_tidy f k).isMap (ik _)]
      simp
    · rw [has_put_other (lit_ne fun e => h e.symm)]
      simp [h]
theorem mapD_size (f : Nat → Int) : ∀ k, (∀ i j, i < k → j < i → f j ≠ f i) → Maps.size (mapD f k) = k
  | 0, _ => rfl
  | k + 1, h => by
    unfold mapD
    rw [size_put (mapD_tidy f k), mapD_has, mapD_size f k fun i j hi hj => h i j (by omega) hj, if_neg]
    simp only [List.any_eq_true, List.mem_range, decide_eq_true_eq, not_exists, not_and]
    exact fun j hj => h k j (by omega) hj
theorem mapD_at (f : Nat → Int) : ∀ k, (∀ i j, i < k → j < i → f j ≠ f i) → ∀ j, j < k → ∀ z, (mapD f k).atKey (.int .i64 (f j)) z = .lit (.int .i64 (j : Int))
  | 0, _, j, hj, _ => absurd hj (by omega)
  | k + 1, h, j, hj, z => by
    unfold mapD
    by_cases e : j = k
    · subst e; exact atKey_put_same (mapD_tidy f j).isMap (ik _) _ z
    · rw [atKey_put_other (lit_ne (h k j (by omega) (by omega)))]
      exact mapD_at f k (fun i j hi hj => h i j (by omega) hj) j (by omega) z

/-- Rows of numbers of the call's own, each in a block of numbers that 'ok' allows. -/
def KZ (w : World) (D : Nat) (v : Value) (KS : List (List Int)) (ok : Nat → Prop) : Prop :=
  ∃ KC : List Value, KC.length = KS.length ∧ w.ownsRow D 44 1 v KC.length KC ∧ ∀ j, j < KS.length → ∃ b m c cur, KC[j]? = some (.slice (some ⟨b, 0, none⟩) m c) ∧ D ≤ b ∧ ok b ∧ w.heap[b]? = some (.cells cur 3 (0, 0)) ∧ (ro KS j).length = m ∧ ∀ d, d < m → cur[d]? = some (.int .i64 (gi (ro KS j) d))
section
variable {w w' : World} {D : Nat} {v : Value} {KS : List (List Int)} {ok ok' : Nat → Prop}
theorem KZ.nil (w : World) (D : Nat) (ok : Nat → Prop) : KZ w D (.slice none 0 0) [] ok := ⟨[], rfl, World.ownsRow_nil _ _ _ _, fun j hj => absurd hj (by simp)⟩
theorem KZ.shape (h : KZ w D v KS ok) : ∃ A c, v = .slice A KS.length c := by
  obtain ⟨KC, h1, h2, _⟩ := h
  obtain ⟨A, c, e, _⟩ := own_shape h2
  exact ⟨A, c, by rw [e, h1]⟩
theorem KZ.type (h : KZ w D v KS ok) {k : Nat} (hk : v.ownBlock = some k) : ∃ cs fr, w.heap[k]? = some (.cells cs 44 fr) := by
  obtain ⟨KC, _, h2, _⟩ := h
  rcases h2.2 with ⟨rfl, _⟩ | ⟨g, cap, cur, rfl, _, hg, _⟩
  · cases hk
  · obtain rfl : g = k := by injection hk
    exact ⟨_, _, hg⟩
theorem KZ.lt (h : KZ w D v KS ok) {k : Nat} (hk : v.ownBlock = some k) : D ≤ k ∧ k < w.heap.size := by
  obtain ⟨KC, _, h2, _⟩ := h
  exact h2.lt k hk
theorem KZ.weak (h : KZ w D v KS ok) (hw : ∀ b, b < w.heap.size → ok b → ok' b) : KZ w D v KS ok' := by
  obtain ⟨KC, h1, h2, h3⟩ := h
  refine ⟨KC, h1, h2, fun j hj => ?_⟩
  obtain ⟨b, m, c, cur, k1, k2, k3, k4, k5⟩ := h3 j hj
  exact ⟨b, m, c, cur, k1, k2, hw b (Array.getElem?_eq_some_iff.1 k4).1 k3, k4, k5⟩
/-- What else turns leaves the rows: a block that is none of theirs. -/
theorem KZ.grown {row : Option Nat} (h : KZ w D v KS ok) (hg : w.grownBy w' row) (h1 : ∀ k, row = some k → D ≤ k → k < w.heap.size → v.ownBlock ≠ some k) (h2 : ∀ (k : Nat) (cur : Array Value), row = some k → D ≤ k → w.heap[k]? = some (.cells cur 3 (0, 0)) → ¬ ok k) : KZ w' D v KS ok := by
  obtain ⟨KC, c1, c2, c3⟩ := h
  refine ⟨KC, c1, c2.kept hg ?_, fun j hj => ?_⟩
  · cases hv : v.ownBlock with
    | none => exact .inl rfl
    | some k =>
      right
      rw [← hv]
      intro e
      rw [hv] at e
      exact h1 k e.symm (c2.lt k hv).1 (c2.lt k hv).2 hv
  · obtain ⟨b, m, c, cur, k1, k2, k3, k4, k5⟩ := c3 j hj
    refine ⟨b, m, c, cur, k1, k2, k3, (hg.block b (Array.getElem?_eq_some_iff.1 k4).1 fun e => ?_).trans k4, k5⟩
    exact h2 b cur e.symm k2 k4 k3
theorem KZ.rows {n c : Nat} {A : Option Addr} (h : KZ w D (.slice A n c) KS ok) : Rws w w.heap.size A n KS := by
  obtain ⟨KC, h1, h2, h3⟩ := h
  have hn : KC.length = n := by
    rcases own_shape h2 with ⟨A', c', e, _⟩
    injection e with _ e _
    exact e.symm
  refine ⟨by rw [← h1, hn], fun hp => ?_⟩
  rcases h2.2 with ⟨e, h0⟩ | ⟨g, cap, cur, e, hg, hh, _, _, _, htake⟩
  · omega
  · injection e with e1 e2 e3
    subst e1
    refine ⟨g, 0, rfl, (Array.getElem?_eq_some_iff.1 hh).1, fun j hj => ?_⟩
    obtain ⟨b, m, cc, cu, k1, k2, k3, k4, k5, k6⟩ := h3 j (by omega)
    refine ⟨some ⟨b, 0, none⟩, m, cc, ?_, k5, fun _ => ⟨b, 0, rfl, (Array.getElem?_eq_some_iff.1 k4).1, fun d hd => by rw [Nat.zero_add, cell_of_row w b d cu 3 (0, 0) k4]; exact k6 d hd⟩⟩
    have := h2.cells (g := g) rfl j _ k1
    rw [Nat.zero_add]
    rwa [Addr.add_lit, Nat.zero_add] at this
/-- One row more. -/
theorem KZ.snoc {gk m cap : Nat} {v' : Value} {K : List Int} {cu : Array Value} {KC : List Value} (h1 : KC.length = KS.length) (h3 : ∀ j, j < KS.length → ∃ b m c cur, KC[j]? = some (.slice (some ⟨b, 0, none⟩) m c) ∧ D ≤ b ∧ ok b ∧ w.heap[b]? = some (.cells cur 3 (0, 0)) ∧ (ro KS j).length = m ∧ ∀ d, d < m → cur[d]? = some (.int .i64 (gi (ro KS j) d)))
    (hg1 : D ≤ gk) (hok : ok gk) (hk : w.heap[gk]? = some (.cells cu 3 (0, 0))) (hK : K.length = m) (hc : ∀ d, d < m → cu[d]? = some (.int .i64 (gi K d)))
    (hty : ∀ k, v.ownBlock = some k → ∃ cs fr, w.heap[k]? = some (.cells cs 44 fr)) (hKC : w'.ownsRow D 44 1 v' (KC ++ [Value.slice (some ⟨gk, 0, none⟩) m cap]).length (KC ++ [Value.slice (some ⟨gk, 0, none⟩) m cap])) (hg : w.grownBy w' v.ownBlock) : KZ w' D v' (KS ++ [K]) ok := by
  have keep : ∀ (b : Nat) (cur : Array Value), w.heap[b]? = some (.cells cur 3 (0, 0)) → w'.heap[b]? = some (.cells cur 3 (0, 0)) := fun b cur hb => (hg.block b (Array.getElem?_eq_some_iff.1 hb).1 fun e => by
    obtain ⟨cs, fr, h⟩ := hty b e.symm
    rw [hb] at h
    injection h with h; injection h with _ h _
    exact absurd h (by decide)).trans hb
  refine ⟨KC ++ [.slice (some ⟨gk, 0, none⟩) m cap], by simp [h1], hKC, fun j hj => ?_⟩
  rw [List.length_append, List.length_singleton] at hj
  by_cases hjl : j < KS.length
  · obtain ⟨b, m', c, cur, k1, k2, k3, k4, k5, k6⟩ := h3 j hjl
    have e : ro (KS ++ [K]) j = ro KS j := by unfold ro; rw [List.getElem?_append_left hjl]
    rw [e]
    exact ⟨b, m', c, cur, by rw [List.getElem?_append_left (by omega)]; exact k1, k2, k3, keep b cur k4, k5, k6⟩
  · obtain rfl : j = KS.length := by omega
    have e : ro (KS ++ [K]) KS.length = K := by unfold ro; simp
    rw [e]
    exact ⟨gk, m, cap, cu, by rw [← h1]; simp, hg1, hok, keep gk cu hk, hK, hc⟩
end
end Go.Proofs.YtfglajddibjnjaaDoor
