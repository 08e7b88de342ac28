/- append of one element, with a word on all blocks but the slice's own; append to a slice that begins within its row (a queue). No condition. -/
import Derived.Test.YtchhbnnpannnhaaDoorLsW
import Derived.Maps.AppendAt
import Derived.Maps.OwnRows
namespace Go.Proofs.YtchhbnnpannnhaaDoor
open Go.RowKit IntWalk

/-- append(s, u) where s is the call's own: one cell more; all blocks but s' own stay. -/
theorem wpList_append1g {P : Program} {w : World} {ops : Array Oper} {rest : List Oper} {o : Oper} {a : Act} {Q : Exit → Act → World → Prop} (hgd : o.guard = none) (s x : Operand) (t : TypeId)
    (ho : o.op = .call { callee := .builtin .append, args := #[s, x], argTypes := #[t, t] }) (e : TypeId) (i : TypeInfo) (z : Value) (ht : P.underlying t = some (.slice e)) (hi : P.info? e = some i) (hz : i.zero = some z)
    (hsize : i.size = 1) (hby : i.bytes ≤ 64) (hzs : z.cells.size = 1) (base : Nat) (v : Value) (l : List Value) (u : Value) (hu : u.oneCell' = true) (hs : a.eval s = v)
    (hx : a.eval x = .slice (some ⟨w.heap.size, 0, none⟩) 1 1) (hown : w.ownsRow base e 1 v l.length l) (hlen : l.length ≤ 1000000) (hbase : base ≤ w.heap.size)
    (h : ∀ v' w', w'.ownsRow base e 1 v' (l ++ [u]).length (l ++ [u]) → w.grownBy w' v.ownBlock → (v'.ownBlock = v.ownBlock ∨ ∃ g, v'.ownBlock = some g ∧ w.heap.size ≤ g) → wpList P ops Q rest (a.put o.dst v') w') :
    wpList P ops Q (o :: rest) a (w.alloc (.cells #[u] e)) := by
  refine wpList_append_own_at (P := P) (w.alloc (.cells #[u] e)) hgd s x t ho base e i z 1 i.bytes ht hi hz hsize rfl hzs (by omega) v l.length l hs (hown.alloc _) ⟨w.heap.size, 0, none⟩ 1 1 [u] hx rfl ?_ ?_ ?_ ?_ ?_ ?_
  · intro j u' hj
    match j, hj with
    | 0, hj =>
      have : u = u' := by simpa using hj
      subst this
      simp [Addr.add, World.cell?_alloc_new]
  · intro u' hu'; simp at hu'; subst hu'; exact hu
  · simp only [maxLen]; omega
  · have h1 : (l.length + 1) * i.bytes ≤ 1000001 * 64 := Nat.mul_le_mul (by omega) hby
    omega
  · simp; omega
  · intro v' w' h1 h2 _ h4
    refine h v' w' (by simpa using h1) ((World.grownBy_alloc w _ _).trans h2) ?_
    rcases h4 with h4 | h4
    · exact .inl h4
    · exact .inr ⟨_, h4, by simp⟩

/-- The same, at the operation within a region. -/
theorem wp_append1g {P : Program} {w : World} {o : Oper} {a : Act} {K : Act → World → Prop} {Q : Exit → Act → World → Prop} (s x : Operand) (t : TypeId)
    (ho : o.op = .call { callee := .builtin .append, args := #[s, x], argTypes := #[t, t] }) (e : TypeId) (i : TypeInfo) (z : Value) (ht : P.underlying t = some (.slice e)) (hi : P.info? e = some i) (hz : i.zero = some z)
    (hsize : i.size = 1) (hby : i.bytes ≤ 64) (hzs : z.cells.size = 1) (base : Nat) (v : Value) (l : List Value) (u : Value) (hu : u.oneCell' = true) (hs : a.eval s = v)
    (hx : a.eval x = .slice (some ⟨w.heap.size, 0, none⟩) 1 1) (hown : w.ownsRow base e 1 v l.length l) (hlen : l.length ≤ 1000000) (hbase : base ≤ w.heap.size)
    (h : ∀ v' w', w'.ownsRow base e 1 v' (l ++ [u]).length (l ++ [u]) → w.grownBy w' v.ownBlock → (v'.ownBlock = v.ownBlock ∨ ∃ g, v'.ownBlock = some g ∧ w.heap.size ≤ g) → K (a.put o.dst v') w') :
    o.wp P a (w.alloc (.cells #[u] e)) K Q := by
  have hb : (l.length + 1) * i.bytes ≤ 140737488355328 := by
    have h1 : (l.length + 1) * i.bytes ≤ 1000001 * 64 := Nat.mul_le_mul (by omega) hby
    omega
  obtain ⟨v', w', hr, h2, h3, _, h5⟩ := run_append_own_at (P := P) (w.alloc (.cells #[u] e)) base t o.type e i z 1 i.bytes ht hi hz hsize rfl hzs (by omega) v l.length l (hown.alloc _) ⟨w.heap.size, 0, none⟩ 1 1 [u] rfl (cell_one_new w u e) (by intro u' hu'; simp at hu'; subst hu'; exact hu) (by simp only [maxLen]; omega) hb (by simp; omega)
  unfold Oper.wp execOp
  simp only [ho, resolve, invoke, builtin, Sem.run_bind, Sem.run_pure, Result.andThen_ok, List.map_toArray, List.map_cons, List.map_nil, hs, hx, hr]
  refine h v' w' (by simpa using h2) ((World.grownBy_alloc w _ _).trans h3) ?_
  rcases h5 with h4 | h4
  · exact .inl h4
  · exact .inr ⟨_, h4, by simp⟩

/-- A queue of numbers: a slice that may begin within its block. -/
def OwnQ (w : World) (base : Nat) (e : TypeId) (v : Value) (xs : List Int) : Prop :=
  ∃ g off cap cur, v = .slice (some ⟨g, off, none⟩) xs.length cap ∧ base ≤ g ∧ w.heap[g]? = some (.cells cur e (0, 0)) ∧ xs.length ≤ cap ∧ off + cap ≤ cur.size ∧ ∀ j, j < xs.length → cur[off + j]? = some (.int .i64 (gi xs j))
section
variable {w w' : World} {base : Nat} {e : TypeId} {v : Value} {xs : List Int}
theorem OwnQ.lt (h : OwnQ w base e v xs) {g : Nat} (hg : v.ownBlock = some g) : base ≤ g ∧ g < w.heap.size := by
  obtain ⟨g', off, cap, cur, rfl, h1, h2, _⟩ := h
  obtain rfl : g' = g := by simpa [Value.ownBlock] using hg
  exact ⟨h1, (Array.getElem?_eq_some_iff.1 h2).1⟩
theorem OwnQ.kept {row : Option Nat} (h : OwnQ w base e v xs) (hg : w.grownBy w' row) (hne : v.ownBlock ≠ row) : OwnQ w' base e v xs := by
  obtain ⟨g, off, cap, cur, rfl, h1, h2, h3⟩ := h
  exact ⟨g, off, cap, cur, rfl, h1, (hg.block g (Array.getElem?_eq_some_iff.1 h2).1 (by simpa [Value.ownBlock] using hne)).trans h2, h3⟩
theorem OwnQ.below {B : Nat} (h : OwnQ w base e v xs) (hb : Below B w w') (hB : w.heap.size ≤ B) : OwnQ w' base e v xs := by
  obtain ⟨g, off, cap, cur, rfl, h1, h2, h3⟩ := h
  have := (Array.getElem?_eq_some_iff.1 h2).1
  exact ⟨g, off, cap, cur, rfl, h1, (hb.block g (by omega)).trans h2, h3⟩
theorem OwnQ.same (h : OwnQ w base e v xs) (hs : ∀ g, v.ownBlock = some g → w'.heap[g]? = w.heap[g]?) : OwnQ w' base e v xs := by
  obtain ⟨g, off, cap, cur, rfl, h1, h2, h3⟩ := h
  exact ⟨g, off, cap, cur, rfl, h1, (hs g rfl).trans h2, h3⟩
/-- The first one. -/
theorem OwnQ.head {x : Int} (h : OwnQ w base e v (x :: xs)) : ∃ g off cap, v = .slice (some ⟨g, off, none⟩) (xs.length + 1) cap ∧ w.cell? ⟨g, off, none⟩ = some (.int .i64 x) := by
  obtain ⟨g, off, cap, cur, rfl, h1, h2, h3, h4, h5⟩ := h
  refine ⟨g, off, cap, rfl, ?_⟩
  rw [cell_of_row w g off cur e (0, 0) h2]
  exact h5 0 (by simp)
/-- What is behind the first one. -/
theorem OwnQ.tail {x : Int} {g off cap : Nat} (h : OwnQ w base e (.slice (some ⟨g, off, none⟩) (xs.length + 1) cap) (x :: xs)) : OwnQ w base e (.slice (if cap = 1 then some ⟨g, off, none⟩ else some ⟨g, off + 1, none⟩) xs.length (cap - 1)) xs := by
  obtain ⟨g', off', cap', cur, hv, h1, h2, h3, h4, h5⟩ := h
  injection hv with hv _ hc
  injection hv with hv
  injection hv with hg ho _
  subst hg ho hc
  simp only [List.length_cons] at h3 h5
  by_cases hc : cap = 1
  · rw [if_pos hc]
    refine ⟨g, off, cap - 1, cur, rfl, h1, h2, by omega, by omega, fun j hj => absurd hj (by omega)⟩
  · rw [if_neg hc]
    refine ⟨g, off + 1, cap - 1, cur, rfl, h1, h2, by omega, by omega, fun j hj => ?_⟩
    have := h5 (j + 1) (by omega)
    rw [show off + 1 + j = off + (j + 1) by omega]
    exact this
end
theorem run_append_room_off {P : Program} (w : World) (t ty e : TypeId) (i : TypeInfo) (ht : P.underlying t = some (.slice e)) (hi : P.info? e = some i) (h1s : i.size = 1)
    (g off sLen sCap : Nat) (cur : Array Value) (hg : w.heap[g]? = some (.cells cur e (0, 0)))
    (a : Addr) (c : Nat) (u : Value) (hu : w.cell? a = some u) (h1 : u.oneCell' = true) (hroom : sLen + 1 ≤ sCap) (hfit : off + sLen + 1 ≤ cur.size) :
    (Builtin.append_ #[t, t] ty #[.slice (some ⟨g, off, none⟩) sLen sCap, .slice (some a) 1 c]).run P w =
      .ok (.slice (some ⟨g, off, none⟩) (sLen + 1) sCap) (w.setRow g (cur.toList.take (off + sLen) ++ [u] ++ cur.toList.drop (off + sLen + 1)).toArray) := by
  have hnews : ∀ j v, [u][j]? = some v → w.cell? (a.add j) = some v := by
    intro j v hj
    match j, hj with
    | 0, hj =>
      have : u = v := by simpa using hj
      subst this
      rw [show a.add 0 = a from rfl]; exact hu
  have hf := run_firstCells_some (P := P) w i.size 1 a 1 c [u] (by rw [h1s]; rfl) hnews
  have hst := run_storeCells_at P g (off + sLen) e [u] 0 cur w hg (by simpa using hfit) (by intro x hx; simp at hx; subst hx; exact h1)
  simp only [Nat.add_zero] at hst
  rw [h1s] at hf
  have hadd : (⟨g, off, none⟩ : Addr).add sLen = ⟨g, off + sLen, none⟩ := by unfold Addr.add; split <;> simp_all
  simp [Builtin.append_, run_underlying ht, sizeOf, typeInfo, hi, h1s, Builtin.lenOf, hroom, hf, hadd, hst]
/-- append to a queue. -/
theorem wpList_append_q {P : Program} {w : World} {ops : Array Oper} {rest : List Oper} {o : Oper} {a : Act} {Q : Exit → Act → World → Prop} (hgd : o.guard = none) (s x : Operand) (t : TypeId)
    (ho : o.op = .call { callee := .builtin .append, args := #[s, x], argTypes := #[t, t] }) (e : TypeId) (i : TypeInfo) (z : Value) (ht : P.underlying t = some (.slice e)) (hi : P.info? e = some i) (hz : i.zero = some z)
    (hsize : i.size = 1) (hby : i.bytes ≤ 64) (hzs : z.cells.size = 1) (base : Nat) (v : Value) (l : List Int) (u : Int) (hs : a.eval s = v)
    (hx : a.eval x = .slice (some ⟨w.heap.size, 0, none⟩) 1 1) (hown : OwnQ w base e v l) (hlen : l.length ≤ 1000000) (hbase : base ≤ w.heap.size)
    (h : ∀ v' w', OwnQ w' base e v' (l ++ [u]) → w.grownBy w' v.ownBlock → (v'.ownBlock = v.ownBlock ∨ ∃ g, v'.ownBlock = some g ∧ w.heap.size ≤ g) → wpList P ops Q rest (a.put o.dst v') w') :
    wpList P ops Q (o :: rest) a (w.alloc (.cells #[.int .i64 u] e)) := by
  obtain ⟨g, off, cap, cur, rfl, h1, h2, h3, h4, h5⟩ := hown
  have hlt : g < w.heap.size := (Array.getElem?_eq_some_iff.1 h2).1
  have h2' : (w.alloc (.cells #[.int .i64 u] e)).heap[g]? = some (.cells cur e (0, 0)) := ((World.grownBy_alloc w _ none).block g hlt (by simp)).trans h2
  have hc : (w.alloc (.cells #[.int .i64 u] e)).cell? ⟨w.heap.size, 0, none⟩ = some (.int .i64 u) := cell_of_row _ _ 0 _ e (0, 0) (heap_alloc_new w _)
  have hgi : ∀ j, j < l.length + 1 → gi (l ++ [u]) j = if j < l.length then gi l j else u := by
    intro j hj
    unfold gi
    by_cases hl : j < l.length
    · rw [if_pos hl, List.getElem?_append_left hl]
    · rw [if_neg hl, List.getElem?_append_right (by omega), show j - l.length = 0 by omega]; rfl
  refine wpList_plain hgd fun K hK => ?_
  by_cases hroom : l.length + 1 ≤ cap
  · have hr := run_append_room_off (P := P) (w.alloc (.cells #[.int .i64 u] e)) t o.type e i ht hi hsize g off l.length cap cur h2' ⟨w.heap.size, 0, none⟩ 1 (.int .i64 u) hc rfl hroom (by omega)
    unfold Oper.wp execOp
    simp only [ho, resolve, invoke, builtin, Sem.run_bind, Sem.run_pure, Result.andThen_ok, List.map_toArray, List.map_cons, List.map_nil, hs, hx, hr]
    refine hK _ _ (h _ _ ⟨g, off, cap, _, by rw [List.length_append, List.length_singleton], h1, setRow_heap _ g cur _ e _ h2', by rw [List.length_append, List.length_singleton]; exact hroom, ?_, fun j hj => ?_⟩ ?_ (.inl rfl))
    · simp only [List.size_toArray, List.length_append, List.length_take, List.length_drop, Array.length_toList, List.length_singleton]; omega
    · rw [List.length_append, List.length_singleton] at hj
      rw [hgi j hj, List.getElem?_toArray]
      have ht : (cur.toList.take (off + l.length)).length = off + l.length := by rw [List.length_take]; have : cur.toList.length = cur.size := Array.length_toList; omega
      by_cases hl : j < l.length
      · rw [if_pos hl, List.append_assoc, List.getElem?_append_left (show off + j < (cur.toList.take (off + l.length)).length by rw [ht]; omega), List.getElem?_take_of_lt (show off + j < off + l.length by omega), Array.getElem?_toList]
        exact h5 j hl
      · rw [if_neg hl, List.append_assoc, List.getElem?_append_right (by rw [ht]; omega), ht, show off + j - (off + l.length) = 0 by omega]
        rfl
    · exact (World.grownBy_alloc w _ _).trans ⟨rfl, rfl, rfl, by simp [World.setRow], fun k _ hk => setRow_other _ g k _ (fun e => hk (by simp [Value.ownBlock, e]))⟩
  · have holds : ∀ j y, (l.map (Value.int .i64))[j]? = some y → (w.alloc (.cells #[.int .i64 u] e)).cell? ((⟨g, off, none⟩ : Addr).add j) = some y := by
      intro j y hy
      rw [List.getElem?_map] at hy
      have hadd : (⟨g, off, none⟩ : Addr).add j = ⟨g, off + j, none⟩ := by unfold Addr.add; split <;> simp_all
      rw [hadd, cell_of_row _ g (off + j) cur e (0, 0) h2']
      by_cases hl : j < l.length
      · rw [h5 j hl, ← hy, List.getElem?_eq_getElem hl, gi_eq hl]; rfl
      · rw [List.getElem?_eq_none (by omega)] at hy; cases hy
    have hnews : ∀ j y, [Value.int .i64 u][j]? = some y → (w.alloc (.cells #[.int .i64 u] e)).cell? ((⟨w.heap.size, 0, none⟩ : Addr).add j) = some y := cell_one_new w _ e
    have hbb : (l.length + 1) * i.bytes ≤ 140737488355328 := by
      have h1 : (l.length + 1) * i.bytes ≤ 1000001 * 64 := Nat.mul_le_mul (by omega) hby
      omega
    have hr := run_append_grow (P := P) (w.alloc (.cells #[.int .i64 u] e)) t o.type e i z ht hi hz ⟨g, off, none⟩ l.length cap (l.map (Value.int .i64)) (by rw [hsize, List.length_map, Nat.mul_one]) holds ⟨w.heap.size, 0, none⟩ 1 1 [.int .i64 u] (by rw [hsize]; rfl) hnews (by omega) (by omega) (growslice_fits (by omega) hbb)
    unfold Oper.wp execOp
    simp only [ho, resolve, invoke, builtin, Sem.run_bind, Sem.run_pure, Result.andThen_ok, List.map_toArray, List.map_cons, List.map_nil, hs, hx, hr]
    have hge := grownCap_ge (w.alloc (.cells #[.int .i64 u] e)) (l.length + 1) cap e
    refine hK _ _ (h _ _ ⟨(w.alloc (.cells #[.int .i64 u] e)).heap.size, 0, _, _, by rw [List.length_append, List.length_singleton], by rw [World.size_alloc]; omega, heap_alloc_new (w.alloc (.cells #[.int .i64 u] e)).drew _, by rw [List.length_append, List.length_singleton]; exact hge, ?_, fun j hj => ?_⟩ ?_ (.inr ⟨_, rfl, by simp⟩))
    · simp only [Array.size_append, List.size_toArray, List.length_map, List.length_cons, List.length_nil, size_zeroCells, hzs]; omega
    · rw [List.length_append, List.length_singleton] at hj
      rw [hgi j hj, Nat.zero_add]
      by_cases hl : j < l.length
      · rw [if_pos hl, Array.append_assoc, Array.getElem?_append_left (by simpa using hl)]
        simp [List.getElem?_map, List.getElem?_eq_getElem hl, gi_eq hl]
      · rw [if_neg hl, Array.append_assoc, Array.getElem?_append_right (by simp; omega), Array.getElem?_append_left (by simp; omega)]
        simp [show j - l.length = 0 by omega]
    · exact (World.grownBy_alloc w _ _).trans ⟨rfl, rfl, rfl, by simp, fun k hk _ => (World.grownBy_alloc (w.alloc (.cells #[.int .i64 u] e)).drew _ none).block k hk (by simp)⟩
end Go.Proofs.YtchhbnnpannnhaaDoor
