/- dfa.Of's memory: what is still to be looked at, the machine that is being made, the map from sets to numbers; rows of the call's own. No condition. -/
import Derived.Test.YtchhbnnpannnhaaNfP
import Derived.Test.YtchhbnnpannnhaaDfM
import Derived.Laws.AppendOwnNone
import Derived.Maps.Own
import Derived.Maps.OwnSet
namespace Go.Proofs.Ytchhbnnpannnhaa
open Go.RowKit IntWalk Go.Maps
set_option linter.unusedSimpArgs false
set_option linter.unusedVariables false

theorem info_intL : (Try.prog.info? 3).map (fun i => (i.zero, i.size, i.bytes)) = some (some (.int .i64 0), 1, 8) := by kernel_rfl
theorem info_rowsL : (Try.prog.info? 23).map (fun i => (i.zero, i.size, i.bytes)) = some (some (.slice none 0 0), 1, 24) := by kernel_rfl
theorem row_cellL {W : World} {g k : Nat} {E : List Int} (hb : Blk W g 3 (E.map (Value.int .i64))) (hk : k < E.length) : W.cell? ⟨g, k, none⟩ = some (.int .i64 (gi E k)) := by
  rw [hb.cell k, List.getElem?_map, List.getElem?_eq_getElem hk, ← gi_eq hk]; rfl
theorem blk_setL {W : World} {g k : Nat} {v : Int} {E : List Int} (hb : Blk W g 3 (E.map (Value.int .i64))) : Blk (W.setCell ⟨g, k, none⟩ (.int .i64 v)) g 3 ((E.set k v).map (Value.int .i64)) := by
  have := hb.set_ k (.int .i64 v)
  rwa [← List.map_set] at this
theorem Ints.of_blk {W : World} {g n B : Nat} {E : List Int} (hb : Blk W g 3 (E.map (Value.int .i64))) (hn : E.length = n) (hB : g < B) : Ints W B (some ⟨g, 0, none⟩) n E :=
  ⟨hn, fun _ => ⟨g, 0, rfl, hB, fun j hj => by rw [Nat.zero_add]; exact row_cellL hb (by omega)⟩⟩
theorem wpList_insert_own {H : Type} {P : Program} (w : World) {ops : Array Oper} {rest : List Oper} {o : Oper} {a : Act} {Q : Exit → Act → World → Prop}
    (hg : o.guard = none) (m x v : Operand) (t : TypeId) (hop : o.op = Op.insert t m x v)
    (k e : TypeId) (K : Keyed P k) (ht : P.underlying t = some (.map k e)) (R : Value → Option (DataW H × List MemPlace)) (b n : Nat) (D : DataW H)
    (hm : a.eval m = .map (some b)) (hown : w.ownsMap P k R b n D) (hn : n < maxLen) (key val : Value) (kl : Lit) (hx : a.eval x = key) (hv : a.eval v = val) (hkey : keyOf P k key = some kl)
    (d : DataW H) (ps : List MemPlace) (hval : R val = some (d, ps))
    (hK : ∀ w', w'.ownsMap P k R b (n + 1) (D.put kl d) → w.grownBy w' (some b) → wpList P ops Q rest (a.put o.dst undef) w') :
    wpList P ops Q (o :: rest) a w := by
  refine wpList_plain hg fun K' hK' => ?_
  obtain ⟨w', hrun, r1, r2⟩ := hown.update K ht hn hkey hval
  unfold Oper.wp
  simp [execOp, hop, hm, hx, hv, hrun, Result.andThen]
  exact hK' _ _ (hK w' r1 r2)

theorem ik (a : Int) : WideAt.IsKeyLit (.int .i64 a) := trivial
/-- The map with f's first k values, each with its place. -/
def mapD (f : Nat → Int) : Nat → DataW Unit
  | 0 => .map []
  | k + 1 => (mapD f k).put (.int .i64 (f k)) (.lit (.int .i64 (k : Int)))
theorem mapD_congr {f g : Nat → Int} : ∀ k, (∀ j, j < k → f j = g j) → mapD f k = mapD g k
  | 0, _ => rfl
  | k + 1, h => by
    unfold mapD
    rw [mapD_congr k fun j hj => h j (by omega), h k (by omega)]
theorem mapD_tidy (f : Nat → Int) : ∀ k, Tidy (mapD f k)
  | 0 => tidy_empty
  | k + 1 => (mapD_tidy f k).put (ik _) _
theorem lit_ne {a b : Int} (h : a ≠ b) : Lit.int .i64 a ≠ Lit.int .i64 b := fun e => h (by injection e)
theorem mapD_has (f : Nat → Int) (x : Int) : ∀ k, Maps.has (mapD f k) (.int .i64 x) = (List.range k).any fun j => decide (f j = x)
  | 0 => rfl
  | k + 1 => by
    unfold mapD
    rw [List.range_succ, List.any_append, ← mapD_has f x k]
    by_cases h : f k = x
    · subst h
      rw [has_put_same (mapD_tidy f k).isMap (ik _)]
      simp
    · rw [has_put_other (lit_ne fun e => h e.symm)]
      simp [h]
theorem mapD_size (f : Nat → Int) : ∀ k, (∀ i j, i < k → j < i → f j ≠ f i) → Maps.size (mapD f k) = k
  | 0, _ => rfl
  | k + 1, h => by
    unfold mapD
    rw [size_put (mapD_tidy f k), mapD_has, mapD_size f k fun i j hi hj => h i j (by omega) hj, if_neg]
    simp only [List.any_eq_true, List.mem_range, decide_eq_true_eq, not_exists, not_and]
    exact fun j hj => h k j (by omega) hj
theorem mapD_at (f : Nat → Int) : ∀ k, (∀ i j, i < k → j < i → f j ≠ f i) → ∀ j, j < k → ∀ z, (mapD f k).atKey (.int .i64 (f j)) z = .lit (.int .i64 (j : Int))
  | 0, _, j, hj, _ => absurd hj (by omega)
  | k + 1, h, j, hj, z => by
    unfold mapD
    by_cases e : j = k
    · subst e; exact atKey_put_same (mapD_tidy f j).isMap (ik _) _ z
    · rw [atKey_put_other (lit_ne (h k j (by omega) (by omega)))]
      exact mapD_at f k (fun i j hi hj => h i j (by omega) hj) j (by omega) z

/-- Rows of numbers of the call's own, each in a block of numbers that 'ok' allows. -/
def KZ (w : World) (D : Nat) (v : Value) (KS : List (List Int)) (ok : Nat → Prop) : Prop :=
  ∃ KC : List Value, KC.length = KS.length ∧ w.ownsRow D 23 1 v KC.length KC ∧ ∀ j, j < KS.length → ∃ b m c cur, KC[j]? = some (.slice (some ⟨b, 0, none⟩) m c) ∧ D ≤ b ∧ ok b ∧ w.heap[b]? = some (.cells cur 3 (0, 0)) ∧ (ro KS j).length = m ∧ ∀ d, d < m → cur[d]? = some (.int .i64 (gi (ro KS j) d))
section
variable {w w' : World} {D : Nat} {v : Value} {KS : List (List Int)} {ok ok' : Nat → Prop}
theorem KZ.nil (w : World) (D : Nat) (ok : Nat → Prop) : KZ w D (.slice none 0 0) [] ok := ⟨[], rfl, World.ownsRow_nil _ _ _ _, fun j hj => absurd hj (by simp)⟩
theorem KZ.shape (h : KZ w D v KS ok) : ∃ A c, v = .slice A KS.length c := by
  obtain ⟨KC, h1, h2, _⟩ := h
  obtain ⟨A, c, e, _⟩ := own_shape h2
  exact ⟨A, c, by rw [e, h1]⟩
theorem KZ.type (h : KZ w D v KS ok) {k : Nat} (hk : v.ownBlock = some k) : ∃ cs fr, w.heap[k]? = some (.cells cs 23 fr) := by
  obtain ⟨KC, _, h2, _⟩ := h
  rcases h2.2 with ⟨rfl, _⟩ | ⟨g, cap, cur, rfl, _, hg, _⟩
  · cases hk
  · obtain rfl : g = k := by injection hk
    exact ⟨_, _, hg⟩
theorem KZ.lt (h : KZ w D v KS ok) {k : Nat} (hk : v.ownBlock = some k) : D ≤ k ∧ k < w.heap.size := by
  obtain ⟨KC, _, h2, _⟩ := h
  exact h2.lt k hk
theorem KZ.weak (h : KZ w D v KS ok) (hw : ∀ b, b < w.heap.size → ok b → ok' b) : KZ w D v KS ok' := by
  obtain ⟨KC, h1, h2, h3⟩ := h
  refine ⟨KC, h1, h2, fun j hj => ?_⟩
  obtain ⟨b, m, c, cur, k1, k2, k3, k4, k5⟩ := h3 j hj
  exact ⟨b, m, c, cur, k1, k2, hw b (Array.getElem?_eq_some_iff.1 k4).1 k3, k4, k5⟩
/-- What else turns leaves the rows: a block that is none of theirs. -/
theorem KZ.grown {row : Option Nat} (h : KZ w D v KS ok) (hg : w.grownBy w' row) (h1 : ∀ k, row = some k → D ≤ k → k < w.heap.size → v.ownBlock ≠ some k) (h2 : ∀ (k : Nat) (cur : Array Value), row = some k → D ≤ k → w.heap[k]? = some (.cells cur 3 (0, 0)) → ¬ ok k) : KZ w' D v KS ok := by
  obtain ⟨KC, c1, c2, c3⟩ := h
  refine ⟨KC, c1, c2.kept hg ?_, fun j hj => ?_⟩
  · cases hv : v.ownBlock with
    | none => exact .inl rfl
    | some k =>
      right
      rw [← hv]
      intro e
      rw [hv] at e
      exact h1 k e.symm (c2.lt k hv).1 (c2.lt k hv).2 hv
  · obtain ⟨b, m, c, cur, k1, k2, k3, k4, k5⟩ := c3 j hj
    refine ⟨b, m, c, cur, k1, k2, k3, (hg.block b (Array.getElem?_eq_some_iff.1 k4).1 fun e => ?_).trans k4, k5⟩
    exact h2 b cur e.symm k2 k4 k3
theorem KZ.rows {n c : Nat} {A : Option Addr} (h : KZ w D (.slice A n c) KS ok) : Rws w w.heap.size A n KS := by
  obtain ⟨KC, h1, h2, h3⟩ := h
  have hn : KC.length = n := by
    rcases own_shape h2 with ⟨A', c', e, _⟩
    injection e with _ e _
    exact e.symm
  refine ⟨by rw [← h1, hn], fun hp => ?_⟩
  rcases h2.2 with ⟨e, h0⟩ | ⟨g, cap, cur, e, hg, hh, _, _, _, htake⟩
  · omega
  · injection e with e1 e2 e3
    subst e1
    refine ⟨g, 0, rfl, (Array.getElem?_eq_some_iff.1 hh).1, fun j hj => ?_⟩
    obtain ⟨b, m, cc, cu, k1, k2, k3, k4, k5, k6⟩ := h3 j (by omega)
    refine ⟨some ⟨b, 0, none⟩, m, cc, ?_, k5, fun _ => ⟨b, 0, rfl, (Array.getElem?_eq_some_iff.1 k4).1, fun d hd => by rw [Nat.zero_add, cell_of_row w b d cu 3 (0, 0) k4]; exact k6 d hd⟩⟩
    have := h2.cells (g := g) rfl j _ k1
    rw [Nat.zero_add]
    rwa [Addr.add_lit, Nat.zero_add] at this
/-- One row more. -/
theorem KZ.snoc {gk m cap : Nat} {v' : Value} {K : List Int} {cu : Array Value} {KC : List Value} (h1 : KC.length = KS.length) (h3 : ∀ j, j < KS.length → ∃ b m c cur, KC[j]? = some (.slice (some ⟨b, 0, none⟩) m c) ∧ D ≤ b ∧ ok b ∧ w.heap[b]? = some (.cells cur 3 (0, 0)) ∧ (ro KS j).length = m ∧ ∀ d, d < m → cur[d]? = some (.int .i64 (gi (ro KS j) d)))
    (hg1 : D ≤ gk) (hok : ok gk) (hk : w.heap[gk]? = some (.cells cu 3 (0, 0))) (hK : K.length = m) (hc : ∀ d, d < m → cu[d]? = some (.int .i64 (gi K d)))
    (hty : ∀ k, v.ownBlock = some k → ∃ cs fr, w.heap[k]? = some (.cells cs 23 fr)) (hKC : w'.ownsRow D 23 1 v' (KC ++ [Value.slice (some ⟨gk, 0, none⟩) m cap]).length (KC ++ [Value.slice (some ⟨gk, 0, none⟩) m cap])) (hg : w.grownBy w' v.ownBlock) : KZ w' D v' (KS ++ [K]) ok := by
  have keep : ∀ (b : Nat) (cur : Array Value), w.heap[b]? = some (.cells cur 3 (0, 0)) → w'.heap[b]? = some (.cells cur 3 (0, 0)) := fun b cur hb => (hg.block b (Array.getElem?_eq_some_iff.1 hb).1 fun e => by
    obtain ⟨cs, fr, h⟩ := hty b e.symm
    rw [hb] at h
    injection h with h; injection h with _ h _
    exact absurd h (by decide)).trans hb
  refine ⟨KC ++ [.slice (some ⟨gk, 0, none⟩) m cap], by simp [h1], hKC, fun j hj => ?_⟩
  rw [List.length_append, List.length_singleton] at hj
  by_cases hjl : j < KS.length
  · obtain ⟨b, m', c, cur, k1, k2, k3, k4, k5, k6⟩ := h3 j hjl
    have e : ro (KS ++ [K]) j = ro KS j := by unfold ro; rw [List.getElem?_append_left hjl]
    rw [e]
    exact ⟨b, m', c, cur, by rw [List.getElem?_append_left (by omega)]; exact k1, k2, k3, keep b cur k4, k5, k6⟩
  · obtain rfl : j = KS.length := by omega
    have e : ro (KS ++ [K]) KS.length = K := by unfold ro; simp
    rw [e]
    exact ⟨gk, m, cap, cu, by rw [← h1]; simp, hg1, hok, keep gk cu hk, hK, hc⟩
end
theorem res_cell_tmp {P : Program} {fn : Func} {p q : Tmp} {ty : TypeId} (h : fn.results = #[.cell p ty, .tmp q]) (tmps : Array Value) (w : World) (g : Nat) (t : TypeId) (cs : Array Value) (fr : Nat × Nat) (d : TypeDesc)
    (hp : tmps.getD p undef = .pointer (some ⟨g, 0, none⟩)) (hg : w.heap[g]? = some (.cells cs t fr))
    (hu : P.underlying ty = some d) (hd : (match d with | .struct _ | .array _ _ => true | _ => false) = true) (hi : (P.info? ty).map (·.size) = some cs.size) :
    (results fn tmps).run P w = .ok (.tuple #[.agg cs, tmps.getD q undef]) w := by
  have hp' : tmps[p]?.getD undef = .pointer (some ⟨g, 0, none⟩) := by simpa using hp
  simp [results, h, hp', asAddr, run_loadVar_row w g t ty cs fr d hg hu hd hi]
theorem three_atL {w : World} {g : Nat} {a b c : Value} {t : TypeId} (h : w.heap[g]? = some (.cells #[a, b, c] t (0, 0))) : w.cell? ⟨g, 0, none⟩ = some a ∧ w.cell? ⟨g, 1, none⟩ = some b ∧ w.cell? ⟨g, 2, none⟩ = some c ∧ w.frozen? ⟨g, 0, none⟩ = false ∧ w.frozen? ⟨g, 1, none⟩ = false ∧ w.frozen? ⟨g, 2, none⟩ = false :=
  ⟨by rw [Lib.cell_of_heap h]; rfl, by rw [Lib.cell_of_heap h]; rfl, by rw [Lib.cell_of_heap h]; rfl, Lib.frozen_of_heap h 0, Lib.frozen_of_heap h 1, Lib.frozen_of_heap h 2⟩
theorem set3L {w : World} {g : Nat} {a b c x y z : Value} {t : TypeId} (h : w.heap[g]? = some (.cells #[a, b, c] t (0, 0))) : (((w.setCell ⟨g, 0, none⟩ x).setCell ⟨g, 1, none⟩ y).setCell ⟨g, 2, none⟩ z).heap[g]? = some (.cells #[x, y, z] t (0, 0)) := by
  simp [World.setCell, Array.getElem?_modify, h]
/-- The class of the j-th one met. -/
def clM (C : List Int) (met : List Nat) (j : Nat) : Int := gi C (met.getD j 0)
theorem mapD_snoc {C : List Int} {met : List Nat} {t : Nat} : mapD (clM C (met ++ [t])) (met ++ [t]).length = (mapD (clM C met) met.length).put (.int .i64 (gi C t)) (.lit (.int .i64 (met.length : Int))) := by
  rw [List.length_append, List.length_singleton]
  show (mapD (clM C (met ++ [t])) met.length).put (.int .i64 (clM C (met ++ [t]) met.length)) _ = _
  have e1 : clM C (met ++ [t]) met.length = gi C t := by
    unfold clM
    rw [List.getD_eq_getElem?_getD]; simp
  rw [e1, mapD_congr (g := clM C met) met.length fun j hj => by unfold clM; rw [getD_app hj]]
theorem zeroI (w : World) : (zeroValue 3).run Try.prog w = .ok (.int .i64 0) w := by kernel_rfl
theorem wf_small {a : Int} (h : 0 ≤ a ∧ a ≤ 1000000) : (Lit.int .i64 a).wf = true := by
  have e1 : IntKind.i64.min = -9223372036854775808 := rfl
  have e2 : IntKind.i64.max = 9223372036854775807 := rfl
  simp only [Lit.wf, e1, e2, Bool.and_eq_true, decide_eq_true_eq]
  omega
theorem info_boolL : (Try.prog.info? 4).map (fun i => (i.zero, i.size, i.bytes)) = some (some (.bool false), 1, 1) := by kernel_rfl
noncomputable abbrev PE : Value → Option (DataW Unit × List MemPlace) := plainElem Try.prog 3
/-- What Of has in memory behind a rounds: what is still to be looked at, the machine that is being made, the map. -/
structure OfR (M : Mc) (C : List Int) (wo : World) (gO D a : Nat) (q : List Nat) (R : List (List Int)) (T : List Bool) (vq vN vT : Value) (ok : Nat → Prop) (w : World) : Prop where
  que : OwnQ w D 3 vq ((q.drop a).map fun x : Nat => (x : Int))
  out : w.heap[gO]? = some (.cells #[S M.sg, vN, vT] 39 (0, 0))
  rows : KZ w D vN R ok
  tks : w.ownsRow D 4 1 vT (T.map Value.bool).length (T.map Value.bool)
  map : w.ownsMap Try.prog 3 PE (gO + 1) q.length (mapD (clM C q) q.length)
  low : Below gO wo w
  ne : ∀ b, vq.ownBlock = some b → ¬ ok b
  lt : gO + 2 = D

theorem row_snoc {E rw_ : List Int} {s d ix : Nat} (h : E.length = s ∧ ∀ e, e < d → gi E e = gi rw_ e) (hd : d < s) (hl : rw_.length = d) : (E.set d (ix : Int)).length = s ∧ ∀ e, e < d + 1 → gi (E.set d (ix : Int)) e = gi (rw_ ++ [(ix : Int)]) e := by
  refine ⟨by rw [List.length_set]; exact h.1, fun e he => ?_⟩
  by_cases hed : e = d
  · subst hed
    rw [gi_set_self (by rw [h.1]; exact hd)]
    unfold gi
    rw [← hl]; simp
  · rw [gi_set_ne (fun x => hed x.symm), h.2 e (by omega)]
    unfold gi
    rw [List.getElem?_append_left (by omega)]
theorem grown_setJ (w : World) (g i : Nat) (u : Value) : w.grownBy (w.setCell ⟨g, i, none⟩ u) (some g) :=
  ⟨rfl, rfl, rfl, by simp [World.setCell], fun k _ hk => Below.heap_setCell _ _ _ _ (fun e => hk (by simp [e]))⟩
theorem set_at2 {w : World} {g : Nat} {a b c z : Value} {t : TypeId} (h : w.heap[g]? = some (.cells #[a, b, c] t (0, 0))) : (w.setCell ⟨g, 2, none⟩ z).heap[g]? = some (.cells #[a, b, z] t (0, 0)) := by
  simp [World.setCell, Array.getElem?_modify, h]
theorem set_at1 {w : World} {g : Nat} {a b c z : Value} {t : TypeId} (h : w.heap[g]? = some (.cells #[a, b, c] t (0, 0))) : (w.setCell ⟨g, 1, none⟩ z).heap[g]? = some (.cells #[a, z, c] t (0, 0)) := by
  simp [World.setCell, Array.getElem?_modify, h]
section
variable {M : Mc} {C : List Int} {wo : World} {gO D a : Nat} {q : List Nat} {R : List (List Int)} {T : List Bool} {vq vN vT : Value} {ok ok' : Nat → Prop} {w w' : World}
theorem OwnQ.typed {base : Nat} {e : TypeId} {v : Value} {xs : List Int} (h : OwnQ w base e v xs) {k : Nat} (hk : v.ownBlock = some k) : ∃ cur, w.heap[k]? = some (.cells cur e (0, 0)) := by
  obtain ⟨g, off, cap, cur, rfl, h1, h2, _⟩ := h
  obtain rfl : g = k := by simpa [Value.ownBlock] using hk
  exact ⟨cur, h2⟩
theorem OwnQ.some {base : Nat} {e : TypeId} {v : Value} {xs : List Int} (h : OwnQ w base e v xs) : ∃ k, v.ownBlock = some k := by
  obtain ⟨g, off, cap, cur, rfl, _⟩ := h
  exact ⟨g, rfl⟩
theorem ty_ne {k : Nat} {cs cs' : Array Value} {t t' : TypeId} {fr fr' : Nat × Nat} (h : w.heap[k]? = some (.cells cs t fr)) (h' : w.heap[k]? = some (.cells cs' t' fr')) (hne : t ≠ t') : False := by
  rw [h] at h'
  injection h' with h'; injection h' with _ h' _
  exact hne h'
/-- A step that turns one block only, none of its parts' (the queue, the rows, the truths, the map, the machine): all stays. -/
theorem OfR.other {row : Option Nat} (h : OfR M C wo gO D a q R T vq vN vT ok w) (hg : w.grownBy w' row) (hr : ∀ k, row = some k → D ≤ k ∧ vq.ownBlock ≠ some k ∧ vN.ownBlock ≠ some k ∧ vT.ownBlock ≠ some k ∧ (∀ cur : Array Value, w.heap[k]? = some (.cells cur 3 (0, 0)) → ¬ ok k)) : OfR M C wo gO D a q R T vq vN vT ok w' := by
  have hD := h.lt
  have hlt : gO < w.heap.size := (Array.getElem?_eq_some_iff.1 h.out).1
  refine ⟨h.que.kept hg ?_, (hg.block gO hlt fun e => by have := (hr gO e.symm).1; omega).trans h.out, h.rows.grown hg (fun k hk _ _ => (hr k hk).2.2.1) (fun k cur hk _ hc => (hr k hk).2.2.2.2 cur hc), h.tks.kept hg ?_, h.map.kept hg ?_, h.low.grown hg (by have := h.low.size; omega) (fun k hk => by have := (hr k hk).1; omega), h.ne, h.lt⟩
  · obtain ⟨k, hk⟩ := h.que.some
    rw [hk]
    intro e
    exact (hr k e.symm).2.1 hk
  · cases hv : vT.ownBlock with
    | none => exact .inl rfl
    | some k =>
      right
      rw [← hv]
      intro e
      rw [hv] at e
      exact (hr k e.symm).2.2.2.1 hv
  · intro e
    have := (hr (gO + 1) e.symm).1
    omega
theorem OfR.alloc (h : OfR M C wo gO D a q R T vq vN vT ok w) (o : Obj) : OfR M C wo gO D a q R T vq vN vT ok (w.alloc o) := h.other (World.grownBy_alloc w o none) (fun k hk => by cases hk)
theorem OfR.drewN (h : OfR M C wo gO D a q R T vq vN vT ok w) (n : Nat) : OfR M C wo gO D a q R T vq vN vT ok (w.drewN n) :=
  ⟨h.que, h.out, h.rows, h.tks, h.map, below_drewN h.low n, h.ne, h.lt⟩
theorem OfR.weak (h : OfR M C wo gO D a q R T vq vN vT ok w) (hw : ∀ b, b < w.heap.size → ok b → ok' b) (hn : ∀ b, vq.ownBlock = some b → ¬ ok' b) : OfR M C wo gO D a q R T vq vN vT ok' w :=
  ⟨h.que, h.out, h.rows.weak hw, h.tks, h.map, h.low, hn, h.lt⟩
/-- One truth more. -/
theorem OfR.addT {v' : Value} {b : Bool} {w6 : World} (h : OfR M C wo gO D a q R T vq vN vT ok w) (hgr : w.grownBy w6 vT.ownBlock) (hl : v'.ownBlock = vT.ownBlock ∨ ∃ g, v'.ownBlock = some g ∧ w.heap.size ≤ g)
    (hown : w6.ownsRow D 4 1 v' ((T ++ [b]).map Value.bool).length ((T ++ [b]).map Value.bool)) : OfR M C wo gO D a q R (T ++ [b]) vq vN v' ok (w6.setCell ⟨gO, 2, none⟩ v') := by
  have hD := h.lt
  have hlt : gO < w.heap.size := (Array.getElem?_eq_some_iff.1 h.out).1
  have hTk : ∀ k, vT.ownBlock = some k → D ≤ k ∧ ∃ cs fr, w.heap[k]? = some (.cells cs 4 fr) := fun k hk => ⟨own_lt h.tks hk, by
    rcases h.tks.2 with ⟨rfl, _⟩ | ⟨g, cap, cur, rfl, _, hg, _⟩
    · cases hk
    · obtain rfl : g = k := by injection hk
      exact ⟨_, _, hg⟩⟩
  have ho6 : w6.heap[gO]? = some (.cells #[S M.sg, vN, vT] 39 (0, 0)) := (hgr.block gO hlt fun e => by have := (hTk gO e.symm).1; omega).trans h.out
  have hs6 := hgr.size
  have hq6 : OwnQ w6 D 3 vq ((q.drop a).map fun x : Nat => (x : Int)) := h.que.kept hgr (by
    obtain ⟨k, hk⟩ := h.que.some
    rw [hk]
    intro e
    obtain ⟨cur, hc⟩ := h.que.typed hk
    obtain ⟨_, cs, fr, hb⟩ := hTk k e.symm
    exact ty_ne hc hb (by decide))
  have hN6 : KZ w6 D vN R ok := h.rows.grown hgr (fun k hk _ _ hv => by
    obtain ⟨cs, fr, hc⟩ := h.rows.type hv
    obtain ⟨_, cs', fr', hb⟩ := hTk k hk
    exact ty_ne hc hb (by decide)) (fun k cur hk _ hc => by
    obtain ⟨_, cs', fr', hb⟩ := hTk k hk
    exact absurd (ty_ne hc hb (by decide)) id)
  have hm6 := h.map.kept hgr (fun e => by have := (hTk (gO + 1) e.symm).1; omega)
  have hl6 := h.low.grown hgr (by have := h.low.size; omega) (fun k hk => by have := (hTk k hk).1; omega)
  have hst := grown_setJ w6 gO 2 v'
  refine ⟨hq6.kept hst ?_, set_at2 ho6, hN6.grown hst (fun k hk hd _ => by injection hk with hk; omega) (fun k cur hk hd _ => by injection hk with hk; omega), hown.kept hst ?_, hm6.kept hst (by intro e; injection e with e; omega), hl6.setCell (p := ⟨gO, 2, none⟩) (Nat.le_refl _) _, h.ne, h.lt⟩
  · obtain ⟨k, hk⟩ := h.que.some
    have := (h.que.lt hk).1
    rw [hk]; intro e; injection e with e; omega
  · cases hv : v'.ownBlock with
    | none => exact .inl rfl
    | some k =>
      right
      rw [← hv]; intro e; rw [hv] at e; injection e with e
      have := own_lt hown hv
      omega
/-- One state more is met: the map's entry, and the queue's. -/
theorem OfR.addQ {P : Nat → Prop} {vq' : Value} {t : Nat} {wy wz : World} (h : OfR M C wo gO D a q R T vq vN vT (fun b => vq.ownBlock ≠ some b ∧ P b) w) (ha : a ≤ q.length)
    (hg1 : w.grownBy wy (some (gO + 1))) (hmap : wy.ownsMap Try.prog 3 PE (gO + 1) (q.length + 1) ((mapD (clM C q) q.length).put (.int .i64 (gi C t)) (.lit (.int .i64 (q.length : Int)))))
    (hg2 : wy.grownBy wz vq.ownBlock) (hl : vq'.ownBlock = vq.ownBlock ∨ ∃ g, vq'.ownBlock = some g ∧ wy.heap.size ≤ g) (hq : OwnQ wz D 3 vq' ((q.drop a).map (fun x : Nat => (x : Int)) ++ [(t : Int)])) :
    OfR M C wo gO D a (q ++ [t]) R T vq' vN vT (fun b => vq'.ownBlock ≠ some b ∧ P b) wz := by
  have hD := h.lt
  have hlt : gO < w.heap.size := (Array.getElem?_eq_some_iff.1 h.out).1
  have hs1 := hg1.size
  have hQk : ∀ k, vq.ownBlock = some k → D ≤ k ∧ k < w.heap.size ∧ ∃ cur, w.heap[k]? = some (.cells cur 3 (0, 0)) := fun k hk => ⟨(h.que.lt hk).1, (h.que.lt hk).2, h.que.typed hk⟩
  have hQy : ∀ k, vq.ownBlock = some k → ∃ cur, wy.heap[k]? = some (.cells cur 3 (0, 0)) := fun k hk => by
    obtain ⟨h1, h2, cur, hc⟩ := hQk k hk
    exact ⟨cur, (hg1.block k h2 (by intro e; injection e with e; omega)).trans hc⟩
  have hNy : KZ wy D vN R (fun b => vq.ownBlock ≠ some b ∧ P b) := h.rows.grown hg1 (fun k hk hd _ => by injection hk with hk; omega) (fun k cur hk hd _ => by injection hk with hk; omega)
  have hNy3 : KZ wy D vN R (fun b => vq.ownBlock ≠ some b ∧ P b ∧ vq'.ownBlock ≠ some b) := hNy.weak fun b hb hok => ⟨hok.1, hok.2, by
    rcases hl with e | ⟨g, e, hg⟩
    · rw [e]; exact hok.1
    · rw [e]; intro e2; injection e2 with e2; omega⟩
  have hNz : KZ wz D vN R (fun b => vq.ownBlock ≠ some b ∧ P b ∧ vq'.ownBlock ≠ some b) := hNy3.grown hg2 (fun k hk _ _ hv => by
    obtain ⟨cs, fr, hc⟩ := hNy.type hv
    obtain ⟨cur, hb⟩ := hQy k hk
    exact ty_ne hc hb (by decide)) (fun k cur hk _ _ hok => hok.1 hk)
  have hTy : wy.ownsRow D 4 1 vT (T.map Value.bool).length (T.map Value.bool) := h.tks.kept hg1 (by
    cases hv : vT.ownBlock with
    | none => exact .inl rfl
    | some k =>
      right
      rw [← hv]; intro e; rw [hv] at e; injection e with e
      have := own_lt h.tks hv
      omega)
  have hTz := hTy.kept hg2 (by
    cases hv : vT.ownBlock with
    | none => exact .inl rfl
    | some k =>
      right
      rw [← hv]; intro e; rw [hv] at e
      obtain ⟨cur, hb⟩ := hQy k e.symm
      rcases hTy.2 with ⟨rfl, _⟩ | ⟨g, cap, cu, rfl, _, hgg, _⟩
      · cases hv
      · obtain rfl : g = k := by injection hv
        exact ty_ne hgg hb (by decide))
  have hoy : wy.heap[gO]? = some (.cells #[S M.sg, vN, vT] 39 (0, 0)) := (hg1.block gO hlt (by intro e; injection e with e; omega)).trans h.out
  refine ⟨?_, (hg2.block gO (by omega) (fun e => by have := (hQk gO e.symm).1; omega)).trans hoy, ?_, hTz, ?_, (h.low.grown hg1 (by have := h.low.size; omega) (fun k hk => by injection hk with hk; omega)).grown hg2 (by have := h.low.size; omega) (fun k hk => by have := (hQk k hk).1; omega), fun b hb hok => hok.1 hb, h.lt⟩
  · rw [List.drop_append_of_le_length ha, List.map_append]; exact hq
  · exact hNz.weak fun b _ hok => ⟨hok.2.2, hok.2.1⟩
  · rw [mapD_snoc, List.length_append, List.length_singleton]
    exact hmap.kept hg2 (by
      obtain ⟨k, hk⟩ := h.que.some
      have := (hQk k hk).1
      rw [hk]; intro e; injection e with e; omega)
/-- A store into the row that is being made. -/
theorem OfR.setR {gR k : Nat} {cs : List Value} {u : Value} (h : OfR M C wo gO D a q R T vq vN vT (fun b => vq.ownBlock ≠ some b ∧ b ≠ gR) w) (hb : Blk w gR 3 cs) (hD : D ≤ gR) (hq : vq.ownBlock ≠ some gR) :
    OfR M C wo gO D a q R T vq vN vT (fun b => vq.ownBlock ≠ some b ∧ b ≠ gR) (w.setCell ⟨gR, k, none⟩ u) := by
  refine h.other (grown_setJ w gR k u) fun k' hk => ?_
  injection hk with hk
  subst hk
  refine ⟨hD, hq, fun e => ?_, fun e => ?_, fun cur _ hok => hok.2 rfl⟩
  · obtain ⟨cs', fr, hc⟩ := h.rows.type e
    exact ty_ne hb hc (by decide)
  · rcases h.tks.2 with ⟨rfl, _⟩ | ⟨g, cap, cu, rfl, _, hgg, _⟩
    · cases e
    · obtain rfl : g = gR := by injection e
      exact ty_ne hb hgg (by decide)
/-- One row more. -/
theorem OfR.addN {gk m cap : Nat} {K : List Int} {cu : Array Value} {KC : List Value} {v' : Value} {w6 : World} (h : OfR M C wo gO D a q R T vq vN vT ok w) (h1 : KC.length = R.length)
    (h3 : ∀ j, j < R.length → ∃ b m c cur, KC[j]? = some (.slice (some ⟨b, 0, none⟩) m c) ∧ D ≤ b ∧ ok b ∧ w.heap[b]? = some (.cells cur 3 (0, 0)) ∧ (ro R j).length = m ∧ ∀ d, d < m → cur[d]? = some (.int .i64 (gi (ro R j) d)))
    (hg1 : D ≤ gk) (hok : ok gk) (hk : w.heap[gk]? = some (.cells cu 3 (0, 0))) (hK : K.length = m) (hc : ∀ d, d < m → cu[d]? = some (.int .i64 (gi K d)))
    (hgr : w.grownBy w6 vN.ownBlock) (hown : w6.ownsRow D 23 1 v' (KC ++ [Value.slice (some ⟨gk, 0, none⟩) m cap]).length (KC ++ [Value.slice (some ⟨gk, 0, none⟩) m cap])) :
    OfR M C wo gO D a q (R ++ [K]) T vq v' vT ok (w6.setCell ⟨gO, 1, none⟩ v') := by
  have hD := h.lt
  have hlt : gO < w.heap.size := (Array.getElem?_eq_some_iff.1 h.out).1
  have hs6 := hgr.size
  have hNk : ∀ k, vN.ownBlock = some k → D ≤ k ∧ ∃ cs fr, w.heap[k]? = some (.cells cs 23 fr) := fun k hk => ⟨(h.rows.lt hk).1, h.rows.type hk⟩
  have hN6 : KZ w6 D v' (R ++ [K]) ok := KZ.snoc h1 h3 hg1 hok hk hK hc (fun k hk => (hNk k hk).2) hown hgr
  have ho6 : w6.heap[gO]? = some (.cells #[S M.sg, vN, vT] 39 (0, 0)) := (hgr.block gO hlt fun e => by have := (hNk gO e.symm).1; omega).trans h.out
  have hq6 : OwnQ w6 D 3 vq ((q.drop a).map fun x : Nat => (x : Int)) := h.que.kept hgr (by
    obtain ⟨k, hk⟩ := h.que.some
    rw [hk]
    intro e
    obtain ⟨cur, hc⟩ := h.que.typed hk
    obtain ⟨_, cs, fr, hb⟩ := hNk k e.symm
    exact ty_ne hc hb (by decide))
  have hT6 := h.tks.kept hgr (by
    cases hv : vT.ownBlock with
    | none => exact .inl rfl
    | some k =>
      right
      rw [← hv]; intro e; rw [hv] at e
      obtain ⟨_, cs, fr, hb⟩ := hNk k e.symm
      rcases h.tks.2 with ⟨rfl, _⟩ | ⟨g, cap, cu, rfl, _, hgg, _⟩
      · cases hv
      · obtain rfl : g = k := by injection hv
        exact ty_ne hgg hb (by decide))
  have hm6 := h.map.kept hgr (fun e => by have := (hNk (gO + 1) e.symm).1; omega)
  have hl6 := h.low.grown hgr (by have := h.low.size; omega) (fun k hk => by have := (hNk k hk).1; omega)
  have hst := grown_setJ w6 gO 1 v'
  refine ⟨hq6.kept hst ?_, set_at1 ho6, hN6.grown hst (fun k hk hd _ => by injection hk with hk; omega) (fun k cur hk hd _ => by injection hk with hk; omega), hT6.kept hst ?_, hm6.kept hst (by intro e; injection e with e; omega), hl6.setCell (p := ⟨gO, 1, none⟩) (Nat.le_refl _) _, h.ne, h.lt⟩
  · obtain ⟨k, hk⟩ := h.que.some
    have := (h.que.lt hk).1
    rw [hk]; intro e; injection e with e; omega
  · cases hv : vT.ownBlock with
    | none => exact .inl rfl
    | some k =>
      right
      rw [← hv]; intro e; rw [hv] at e; injection e with e
      have := own_lt h.tks hv
      omega
/-- The first one of the queue is done with. -/
theorem OfR.pop {g off cap n x : Nat} {xs : List Int} (h : OfR M C wo gO D a q R T (.slice (some ⟨g, off, none⟩) (n + 1) cap) vN vT (fun b => (Value.slice (some ⟨g, off, none⟩) (n + 1) cap).ownBlock ≠ some b) w) (hq : q.drop a = x :: q.drop (a + 1)) (hx : (q.drop (a + 1)).map (fun x : Nat => (x : Int)) = xs) (hn : xs.length = n) :
    OfR M C wo gO D (a + 1) q R T (.slice (if cap = 1 then some ⟨g, off, none⟩ else some ⟨g, off + 1, none⟩) n (cap - 1)) vN vT (fun b => (Value.slice (if cap = 1 then some ⟨g, off, none⟩ else some ⟨g, off + 1, none⟩) n (cap - 1)).ownBlock ≠ some b) w := by
  have hb : (Value.slice (if cap = 1 then some ⟨g, off, none⟩ else some ⟨g, off + 1, none⟩) n (cap - 1)).ownBlock = some g := by split <;> rfl
  have hque := h.que
  rw [hq, List.map_cons, hx] at hque
  subst hn
  refine ⟨by rw [hx]; exact hque.tail, h.out, h.rows.weak fun b _ hok => by rw [hb]; exact hok, h.tks, h.map, h.low, fun b hbb hok => hok hbb, h.lt⟩
end
theorem bls_of_own {w : World} {D : Nat} {A : Option Addr} {n c : Nat} {T : List Bool} (h : w.ownsRow D 4 1 (.slice A n c) (T.map Value.bool).length (T.map Value.bool)) (hn : n = T.length) : Bls w w.heap.size A n T := by
  refine ⟨hn.symm, fun hp => ?_⟩
  rcases h.2 with ⟨e, h0⟩ | ⟨g, cap, cur, e, hg, hh, _, _, _, htake⟩
  · rw [List.length_map] at h0; omega
  · injection e with e1 e2 e3
    subst e1
    refine ⟨g, 0, rfl, (Array.getElem?_eq_some_iff.1 hh).1, fun j hj => ?_⟩
    have := h.cells (g := g) rfl j (.bool (bo T j)) (by rw [List.getElem?_map]; unfold bo; rw [List.getElem?_eq_getElem (by omega)]; rfl)
    rw [Nat.zero_add]
    rwa [Addr.add_lit, Nat.zero_add] at this
end Go.Proofs.Ytchhbnnpannnhaa
