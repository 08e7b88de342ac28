/- A machine that is made row by row: its rows (some may be nil), its truths, its struct. No condition. -/
import Derived.Test.YtfglajddibjnjaaDoorLsG
namespace Go.Proofs.YtfglajddibjnjaaDoor
open Go.RowKit IntWalk
set_option linter.unusedSimpArgs false

/-- A row of numbers of the call's own. -/
abbrev OwI (w : World) (D : Nat) (v : Value) (K : List Int) : Prop := w.ownsRow D 3 1 v (K.map (Value.int .i64)).length (K.map (Value.int .i64))
theorem own_typed {w : World} {D n : Nat} {e : TypeId} {v : Value} {xs : List Value} (h : w.ownsRow D e 1 v n xs) {k : Nat} (hk : v.ownBlock = some k) : ∃ cs, w.heap[k]? = some (.cells cs e (0, 0)) := by
  rcases h.2 with ⟨rfl, _⟩ | ⟨g, cap, cur, rfl, _, hg, _⟩
  · cases hk
  · obtain rfl : g = k := by injection hk
    exact ⟨_, hg⟩
theorem own_kept {w w' : World} {D n : Nat} {e : TypeId} {v : Value} {xs : List Value} {row : Option Nat} (h : w.ownsRow D e 1 v n xs) (hg : w.grownBy w' row) (hn : ∀ k, v.ownBlock = some k → row ≠ some k) : w'.ownsRow D e 1 v n xs := by
  refine h.kept hg ?_
  cases hv : v.ownBlock with
  | none => exact .inl rfl
  | some k => exact .inr fun e => hn k hv e.symm
theorem ints_own2 {w : World} {D n c : Nat} {A : Option Addr} {K : List Int} (h : OwI w D (.slice A n c) K) : Ints w w.heap.size A n K := by
  have hn : n = K.length := by
    obtain ⟨A', c', e, _⟩ := own_shape h
    injection e with _ e _
    rw [e, List.length_map]
  refine ⟨hn.symm, fun hp => ?_⟩
  rcases h.2 with ⟨e, h0⟩ | ⟨g, cap, cur, e, hg, hh, _, _, _, htake⟩
  · rw [List.length_map] at h0; omega
  · injection e with e1 e2 e3
    subst e1
    refine ⟨g, 0, rfl, (Array.getElem?_eq_some_iff.1 hh).1, fun j hj => ?_⟩
    have := h.cells (g := g) rfl j (.int .i64 (gi K j)) (by rw [List.getElem?_map, List.getElem?_eq_getElem (by omega), gi_eq (by omega)]; rfl)
    rw [Nat.zero_add]
    rwa [Addr.add_lit, Nat.zero_add] at this
/-- Rows of numbers of the call's own, each nil or in a block that 'ok' allows. -/
def KY (w : World) (D : Nat) (v : Value) (KS : List (List Int)) (ok : Nat → Prop) : Prop :=
  ∃ KC : List Value, KC.length = KS.length ∧ w.ownsRow D 44 1 v KC.length KC ∧ ∀ j, j < KS.length → ∃ u, KC[j]? = some u ∧ OwI w D u (ro KS j) ∧ ∀ k, u.ownBlock = some k → ok k
section
variable {w w' : World} {D : Nat} {v : Value} {KS : List (List Int)} {ok ok' : Nat → Prop}
theorem KY.nil (w : World) (D : Nat) (ok : Nat → Prop) : KY w D (.slice none 0 0) [] ok := ⟨[], rfl, World.ownsRow_nil _ _ _ _, fun j hj => absurd hj (by simp)⟩
theorem KY.shape (h : KY w D v KS ok) : ∃ A c, v = .slice A KS.length c := by
  obtain ⟨KC, h1, h2, _⟩ := h
  obtain ⟨A, c, e, _⟩ := own_shape h2
  exact ⟨A, c, by rw [e, h1]⟩
theorem KY.type (h : KY w D v KS ok) {k : Nat} (hk : v.ownBlock = some k) : ∃ cs, w.heap[k]? = some (.cells cs 44 (0, 0)) := by
  obtain ⟨KC, _, h2, _⟩ := h
  exact own_typed h2 hk
theorem KY.lt (h : KY w D v KS ok) {k : Nat} (hk : v.ownBlock = some k) : D ≤ k ∧ k < w.heap.size := by
  obtain ⟨KC, _, h2, _⟩ := h
  exact h2.lt k hk
theorem KY.weak (h : KY w D v KS ok) (hw : ∀ b, b < w.heap.size → ok b → ok' b) : KY w D v KS ok' := by
  obtain ⟨KC, h1, h2, h3⟩ := h
  refine ⟨KC, h1, h2, fun j hj => ?_⟩
  obtain ⟨u, k1, k2, k3⟩ := h3 j hj
  exact ⟨u, k1, k2, fun k hk => hw k (k2.lt k hk).2 (k3 k hk)⟩
/-- What else turns leaves the rows: a block that is none of theirs. -/
theorem KY.grown {row : Option Nat} (h : KY w D v KS ok) (hg : w.grownBy w' row) (h1 : ∀ k, row = some k → D ≤ k → v.ownBlock ≠ some k) (h2 : ∀ (k : Nat) (cur : Array Value), row = some k → D ≤ k → w.heap[k]? = some (.cells cur 3 (0, 0)) → ¬ ok k) : KY w' D v KS ok := by
  obtain ⟨KC, c1, c2, c3⟩ := h
  refine ⟨KC, c1, own_kept c2 hg fun k hk e => h1 k e (own_lt c2 hk) hk, fun j hj => ?_⟩
  obtain ⟨u, k1, k2, k3⟩ := c3 j hj
  refine ⟨u, k1, own_kept k2 hg fun k hk e => ?_, k3⟩
  obtain ⟨cs, hc⟩ := own_typed k2 hk
  exact h2 k cs e (own_lt k2 hk) hc (k3 k hk)
theorem KY.rows {n c : Nat} {A : Option Addr} (h : KY w D (.slice A n c) KS ok) : Rws w w.heap.size A n KS := by
  obtain ⟨KC, h1, h2, h3⟩ := h
  have hn : KC.length = n := by
    rcases own_shape h2 with ⟨A', c', e, _⟩
    injection e with _ e _
    exact e.symm
  refine ⟨by rw [← h1, hn], fun hp => ?_⟩
  rcases h2.2 with ⟨e, h0⟩ | ⟨g, cap, cur, e, hg, hh, _, _, _, htake⟩
  · omega
  · injection e with e1 e2 e3
    subst e1
    refine ⟨g, 0, rfl, (Array.getElem?_eq_some_iff.1 hh).1, fun j hj => ?_⟩
    obtain ⟨u, k1, k2, _⟩ := h3 j (by omega)
    obtain ⟨A', c', e', _⟩ := own_shape k2
    subst e'
    refine ⟨A', _, c', ?_, ints_own2 k2⟩
    have := h2.cells (g := g) rfl j _ k1
    rw [Nat.zero_add]
    rwa [Addr.add_lit, Nat.zero_add] at this
/-- One row more. -/
theorem KY.snoc {v' u : Value} {K : List Int} {KC : List Value} (h1 : KC.length = KS.length) (h2 : w.ownsRow D 44 1 v KC.length KC) (h3 : ∀ j, j < KS.length → ∃ u, KC[j]? = some u ∧ OwI w D u (ro KS j) ∧ ∀ k, u.ownBlock = some k → ok k)
    (hu : OwI w D u K) (hok : ∀ k, u.ownBlock = some k → ok k)
    (hKC : w'.ownsRow D 44 1 v' (KC ++ [u]).length (KC ++ [u])) (hg : w.grownBy w' v.ownBlock) : KY w' D v' (KS ++ [K]) ok := by
  have keep : ∀ (x : Value) (L : List Int), OwI w D x L → OwI w' D x L := fun x L hx => own_kept hx hg fun k hk e => by
    obtain ⟨cs, hc⟩ := own_typed hx hk
    obtain ⟨cs', hc'⟩ := own_typed h2 e
    exact ty_ne hc hc' (by decide)
  refine ⟨KC ++ [u], by simp [h1], hKC, fun j hj => ?_⟩
  rw [List.length_append, List.length_singleton] at hj
  by_cases hjl : j < KS.length
  · obtain ⟨x, k1, k2, k3⟩ := h3 j hjl
    have e : ro (KS ++ [K]) j = ro KS j := by unfold ro; rw [List.getElem?_append_left hjl]
    rw [e]
    exact ⟨x, by rw [List.getElem?_append_left (by omega)]; exact k1, keep x _ k2, k3⟩
  · obtain rfl : j = KS.length := by omega
    have e : ro (KS ++ [K]) KS.length = K := by unfold ro; simp
    rw [e]
    exact ⟨u, by rw [← h1]; simp, keep u K hu, hok⟩
end
/-- What is in memory of a machine that is being made. -/
structure OutR (sg : List UInt8) (wo : World) (gO D : Nat) (R : List (List Int)) (T : List Bool) (vN vT : Value) (ok : Nat → Prop) (w : World) : Prop where
  out : w.heap[gO]? = some (.cells #[S sg, vN, vT] 25 (0, 0))
  rows : KY w D vN R ok
  tks : w.ownsRow D 4 1 vT (T.map Value.bool).length (T.map Value.bool)
  low : Below gO wo w
  lt : gO < D
section
variable {sg : List UInt8} {wo : World} {gO D : Nat} {R : List (List Int)} {T : List Bool} {vN vT : Value} {ok ok' : Nat → Prop} {w w' : World}
theorem OutR.gt (h : OutR sg wo gO D R T vN vT ok w) : gO < w.heap.size := (Array.getElem?_eq_some_iff.1 h.out).1
theorem OutR.other {row : Option Nat} (h : OutR sg wo gO D R T vN vT ok w) (hg : w.grownBy w' row) (hr : ∀ k, row = some k → D ≤ k ∧ vN.ownBlock ≠ some k ∧ vT.ownBlock ≠ some k ∧ (∀ cur : Array Value, w.heap[k]? = some (.cells cur 3 (0, 0)) → ¬ ok k)) : OutR sg wo gO D R T vN vT ok w' := by
  have hD := h.lt
  have hlt := h.gt
  exact ⟨(hg.block gO hlt fun e => by have := (hr gO e.symm).1; omega).trans h.out, h.rows.grown hg (fun k hk _ => (hr k hk).2.1) (fun k cur hk _ hc => (hr k hk).2.2.2 cur hc), own_kept h.tks hg (fun k hk e => (hr k e).2.2.1 hk), h.low.grown hg (by have := h.low.size; omega) (fun k hk => by have := (hr k hk).1; omega), h.lt⟩
theorem OutR.alloc (h : OutR sg wo gO D R T vN vT ok w) (o : Obj) : OutR sg wo gO D R T vN vT ok (w.alloc o) := h.other (World.grownBy_alloc w o none) (fun k hk => by cases hk)
theorem OutR.drewN (h : OutR sg wo gO D R T vN vT ok w) (n : Nat) : OutR sg wo gO D R T vN vT ok (w.drewN n) :=
  ⟨h.out, h.rows, h.tks, below_drewN h.low n, h.lt⟩
theorem OutR.weak (h : OutR sg wo gO D R T vN vT ok w) (hw : ∀ b, b < w.heap.size → ok b → ok' b) : OutR sg wo gO D R T vN vT ok' w :=
  ⟨h.out, h.rows.weak hw, h.tks, h.low, h.lt⟩
/-- A row of numbers beside it turns. -/
theorem OutR.int {v : Value} {xs : List Value} {n : Nat} (h : OutR sg wo gO D R T vN vT ok w) (hv : w.ownsRow D 3 1 v n xs) (hg : w.grownBy w' v.ownBlock) (hok : ∀ k, v.ownBlock = some k → ¬ ok k) : OutR sg wo gO D R T vN vT ok w' :=
  h.other hg fun k hk => by
    obtain ⟨cs, hc⟩ := own_typed hv hk
    refine ⟨own_lt hv hk, fun e => ?_, fun e => ?_, fun _ _ => hok k hk⟩
    · obtain ⟨cs', hc'⟩ := h.rows.type e
      exact ty_ne hc hc' (by decide)
    · obtain ⟨cs', hc'⟩ := own_typed h.tks e
      exact ty_ne hc hc' (by decide)
/-- One truth more: the row, then the field. -/
theorem OutR.addT {v' : Value} {b : Bool} {w6 : World} (h : OutR sg wo gO D R T vN vT ok w) (hgr : w.grownBy w6 vT.ownBlock)
    (hown : w6.ownsRow D 4 1 v' ((T ++ [b]).map Value.bool).length ((T ++ [b]).map Value.bool)) : OutR sg wo gO D R (T ++ [b]) vN v' ok (w6.setCell ⟨gO, 2, none⟩ v') := by
  have hD := h.lt
  have hlt := h.gt
  have hTk : ∀ k, vT.ownBlock = some k → D ≤ k ∧ ∃ cs, w.heap[k]? = some (.cells cs 4 (0, 0)) := fun k hk => ⟨own_lt h.tks hk, own_typed h.tks hk⟩
  have ho6 : w6.heap[gO]? = some (.cells #[S sg, vN, vT] 25 (0, 0)) := (hgr.block gO hlt fun e => by have := (hTk gO e.symm).1; omega).trans h.out
  have hs6 := hgr.size
  have hN6 : KY w6 D vN R ok := h.rows.grown hgr (fun k hk _ hv => by
    obtain ⟨cs, hc⟩ := h.rows.type hv
    obtain ⟨_, cs', hb⟩ := hTk k hk
    exact ty_ne hc hb (by decide)) (fun k cur hk _ hc => by
    obtain ⟨_, cs', hb⟩ := hTk k hk
    exact absurd (ty_ne hc hb (by decide)) id)
  have hl6 := h.low.grown hgr (by have := h.low.size; omega) (fun k hk => by have := (hTk k hk).1; omega)
  have hst := grown_set w6 gO 2 v'
  exact ⟨set_at2 ho6, hN6.grown hst (fun k hk hd _ => by injection hk with hk; omega) (fun k cur hk hd _ => by injection hk with hk; omega), own_kept hown hst (fun k hk e => by injection e with e; have := own_lt hown hk; omega), hl6.setCell (p := ⟨gO, 2, none⟩) (Nat.le_refl _) _, h.lt⟩
/-- One row more: the rows, then the field. -/
theorem OutR.addN {K : List Int} {KC : List Value} {v' u : Value} {w6 : World} (h : OutR sg wo gO D R T vN vT ok w) (h1 : KC.length = R.length) (h2 : w.ownsRow D 44 1 vN KC.length KC)
    (h3 : ∀ j, j < R.length → ∃ u, KC[j]? = some u ∧ OwI w D u (ro R j) ∧ ∀ k, u.ownBlock = some k → ok k)
    (hu : OwI w D u K) (hok : ∀ k, u.ownBlock = some k → ok k)
    (hgr : w.grownBy w6 vN.ownBlock) (hown : w6.ownsRow D 44 1 v' (KC ++ [u]).length (KC ++ [u])) :
    OutR sg wo gO D (R ++ [K]) T v' vT ok (w6.setCell ⟨gO, 1, none⟩ v') := by
  have hD := h.lt
  have hlt := h.gt
  have hs6 := hgr.size
  have hNk : ∀ k, vN.ownBlock = some k → D ≤ k ∧ ∃ cs, w.heap[k]? = some (.cells cs 44 (0, 0)) := fun k hk => ⟨(h.rows.lt hk).1, h.rows.type hk⟩
  have hN6 : KY w6 D v' (R ++ [K]) ok := KY.snoc h1 h2 h3 hu hok hown hgr
  have ho6 : w6.heap[gO]? = some (.cells #[S sg, vN, vT] 25 (0, 0)) := (hgr.block gO hlt fun e => by have := (hNk gO e.symm).1; omega).trans h.out
  have hT6 := own_kept h.tks hgr (fun k hk e => by
    obtain ⟨cs, hc⟩ := own_typed h.tks hk
    obtain ⟨_, cs', hb⟩ := hNk k e
    exact ty_ne hc hb (by decide))
  have hl6 := h.low.grown hgr (by have := h.low.size; omega) (fun k hk => by have := (hNk k hk).1; omega)
  have hst := grown_set w6 gO 1 v'
  exact ⟨set_at1 ho6, hN6.grown hst (fun k hk hd _ => by injection hk with hk; omega) (fun k cur hk hd _ => by injection hk with hk; omega), own_kept hT6 hst (fun k hk e => by injection e with e; have := own_lt hT6 hk; omega), hl6.setCell (p := ⟨gO, 1, none⟩) (Nat.le_refl _) _, h.lt⟩
/-- What else is the call's own stays, where a truth, or a row, is added. -/
theorem OutR.keepT {v v' : Value} {e : TypeId} {n : Nat} {xs : List Value} {w6 : World} (h : OutR sg wo gO D R T vN vT ok w) (hgr : w.grownBy w6 vT.ownBlock) (he : e ≠ 4) (ho : w.ownsRow D e 1 v n xs) : (w6.setCell ⟨gO, 2, none⟩ v').ownsRow D e 1 v n xs :=
  own_kept (own_kept ho hgr fun k hk e' => by
    obtain ⟨cs, hc⟩ := own_typed ho hk
    obtain ⟨cs', hc'⟩ := own_typed h.tks e'
    exact ty_ne hc hc' he) (grown_set w6 gO 2 v') (fun k hk e' => by injection e' with e'; have := own_lt ho hk; have := h.lt; omega)
theorem OutR.keepN {v v' : Value} {e : TypeId} {n : Nat} {xs : List Value} {w6 : World} (h : OutR sg wo gO D R T vN vT ok w) (hgr : w.grownBy w6 vN.ownBlock) (he : e ≠ 44) (ho : w.ownsRow D e 1 v n xs) : (w6.setCell ⟨gO, 1, none⟩ v').ownsRow D e 1 v n xs :=
  own_kept (own_kept ho hgr fun k hk e' => by
    obtain ⟨cs, hc⟩ := own_typed ho hk
    obtain ⟨cs', hc'⟩ := h.rows.type e'
    exact ty_ne hc hc' he) (grown_set w6 gO 1 v') (fun k hk e' => by injection e' with e'; have := own_lt ho hk; have := h.lt; omega)
/-- A row that was appended to is still not one of the rows. -/
theorem OutR.turn {v v' : Value} {P : Nat → Prop} (h : OutR sg wo gO D R T vN vT (fun b => v.ownBlock ≠ some b ∧ P b) w) (hl : v'.ownBlock = v.ownBlock ∨ ∃ g, v'.ownBlock = some g ∧ w.heap.size ≤ g) :
    OutR sg wo gO D R T vN vT (fun b => (v.ownBlock ≠ some b ∧ P b) ∧ v'.ownBlock ≠ some b) w :=
  h.weak fun b hb hok => ⟨hok, by
    rcases hl with e | ⟨g, e, hg⟩
    · rw [e]; exact hok.1
    · rw [e]; intro e2; injection e2 with e2; omega⟩
end
/-- A machine that is being made, a row of it, and what was met. -/
structure SmR (sg : List UInt8) (wo : World) (gO D : Nat) (R : List (List Int)) (T : List Bool) (vN vT mv rv : Value) (met row : List Int) (w : World) : Prop where
  out : OutR sg wo gO D R T vN vT (fun b => rv.ownBlock ≠ some b ∧ mv.ownBlock ≠ some b) w
  me : OwI w D mv met
  rw_ : OwI w D rv row
  ne : ∀ k, mv.ownBlock = some k → rv.ownBlock ≠ some k
section
variable {sg : List UInt8} {wo : World} {gO D : Nat} {R : List (List Int)} {T : List Bool} {vN vT mv rv v' : Value} {met row : List Int} {x : Int} {w w' : World}
theorem SmR.addR (h : SmR sg wo gO D R T vN vT mv rv met row w) (hg : w.grownBy w' rv.ownBlock) (hl : v'.ownBlock = rv.ownBlock ∨ ∃ g, v'.ownBlock = some g ∧ w.heap.size ≤ g)
    (ho : w'.ownsRow D 3 1 v' (row.map (Value.int .i64) ++ [Value.int .i64 x]).length (row.map (Value.int .i64) ++ [Value.int .i64 x])) : SmR sg wo gO D R T vN vT mv v' met (row ++ [x]) w' := by
  refine ⟨((h.out.turn hl).int h.rw_ hg (fun b hb h => h.1.1 hb)).weak fun b _ h => ⟨h.2, h.1.2⟩, own_kept h.me hg fun k hk e => h.ne k hk e, by show w'.ownsRow D 3 1 v' _ _; rw [List.map_append]; exact ho, fun k hk e => ?_⟩
  rcases hl with e' | ⟨g, e', hg'⟩
  · rw [e'] at e; exact h.ne k hk e
  · rw [e'] at e; injection e with e
    have := (h.me.lt k hk).2
    omega
theorem SmR.addM (h : SmR sg wo gO D R T vN vT mv rv met row w) (hg : w.grownBy w' mv.ownBlock) (hl : v'.ownBlock = mv.ownBlock ∨ ∃ g, v'.ownBlock = some g ∧ w.heap.size ≤ g)
    (ho : w'.ownsRow D 3 1 v' (met.map (Value.int .i64) ++ [Value.int .i64 x]).length (met.map (Value.int .i64) ++ [Value.int .i64 x])) : SmR sg wo gO D R T vN vT v' rv (met ++ [x]) row w' := by
  refine ⟨(((h.out.weak fun b _ h => ⟨h.2, h.1⟩).turn hl).int h.me hg (fun b hb h => h.1.1 hb)).weak fun b _ h => ⟨h.1.2, h.2⟩, by show w'.ownsRow D 3 1 v' _ _; rw [List.map_append]; exact ho, own_kept h.rw_ hg fun k hk e => h.ne k e hk, fun k hk e => ?_⟩
  rcases hl with e' | ⟨g, e', hg'⟩
  · rw [e'] at hk; exact h.ne k hk e
  · rw [e'] at hk; injection hk with hk
    have := (h.rw_.lt k e).2
    omega
end
end Go.Proofs.YtfglajddibjnjaaDoor
