/- What Of has in memory, and how its parts turn one by one. No condition. -/
import Derived.Test.YtfglajddibjnjaaDoorLsF
namespace Go.Proofs.YtfglajddibjnjaaDoor
open Go.RowKit IntWalk Go.Maps
set_option linter.unusedSimpArgs false

theorem info_boolL : (Tryd.prog.info? 4).map (fun i => (i.zero, i.size, i.bytes)) = some (some (.bool false), 1, 1) := by kernel_rfl
noncomputable abbrev PE : Value → Option (DataW Unit × List MemPlace) := plainElem Tryd.prog 3
/-- What Of has in memory behind a rounds: what is still to be looked at, the machine that is being made, the map. -/
structure OfR (M : Mc) (C : List Int) (wo : World) (gO D a : Nat) (q : List Nat) (R : List (List Int)) (T : List Bool) (vq vN vT : Value) (ok : Nat → Prop) (w : World) : Prop where
  que : OwnQ w D 3 vq ((q.drop a).map fun x : Nat => (x : Int))
  out : w.heap[gO]? = some (.cells #[S M.sg, vN, vT] 25 (0, 0))
  rows : KZ w D vN R ok
  tks : w.ownsRow D 4 1 vT (T.map Value.bool).length (T.map Value.bool)
  map : w.ownsMap Tryd.prog 3 PE (gO + 1) q.length (mapD (clM C q) q.length)
  low : Below gO wo w
  ne : ∀ b, vq.ownBlock = some b → ¬ ok b
  lt : gO + 2 = D

theorem row_snoc {E rw_ : List Int} {s d ix : Nat} (h : E.length = s ∧ ∀ e, e < d → gi E e = gi rw_ e) (hd : d < s) (hl : rw_.length = d) : (E.set d (ix : Int)).length = s ∧ ∀ e, e < d + 1 → gi (E.set d (ix : Int)) e = gi (rw_ ++ [(ix : Int)]) e := by
  refine ⟨by rw [List.length_set]; exact h.1, fun e he => ?_⟩
  by_cases hed : e = d
  · subst hed
    rw [gi_set_self (by rw [h.1]; exact hd)]
    unfold gi
    rw [← hl]; simp
  · rw [gi_set_ne (fun x => hed x.symm), h.2 e (by omega)]
    unfold gi
    rw [List.getElem?_append_left (by omega)]
theorem grown_set (w : World) (g i : Nat) (u : Value) : w.grownBy (w.setCell ⟨g, i, none⟩ u) (some g) :=
  ⟨rfl, rfl, rfl, by simp [World.setCell], fun k _ hk => Below.heap_setCell _ _ _ _ (fun e => hk (by simp [e]))⟩
theorem set_at2 {w : World} {g : Nat} {a b c z : Value} {t : TypeId} (h : w.heap[g]? = some (.cells #[a, b, c] t (0, 0))) : (w.setCell ⟨g, 2, none⟩ z).heap[g]? = some (.cells #[a, b, z] t (0, 0)) := by
  simp [World.setCell, Array.getElem?_modify, h]
theorem set_at1 {w : World} {g : Nat} {a b c z : Value} {t : TypeId} (h : w.heap[g]? = some (.cells #[a, b, c] t (0, 0))) : (w.setCell ⟨g, 1, none⟩ z).heap[g]? = some (.cells #[a, z, c] t (0, 0)) := by
  simp [World.setCell, Array.getElem?_modify, h]
section
variable {M : Mc} {C : List Int} {wo : World} {gO D a : Nat} {q : List Nat} {R : List (List Int)} {T : List Bool} {vq vN vT : Value} {ok ok' : Nat → Prop} {w w' : World}
theorem OwnQ.typed {base : Nat} {e : TypeId} {v : Value} {xs : List Int} (h : OwnQ w base e v xs) {k : Nat} (hk : v.ownBlock = some k) : ∃ cur, w.heap[k]? = some (.cells cur e (0, 0)) := by
  obtain ⟨g, off, cap, cur, rfl, h1, h2, _⟩ := h
  obtain rfl : g = k := by simpa [Value.ownBlock] using hk
  exact ⟨cur, h2⟩
theorem OwnQ.some {base : Nat} {e : TypeId} {v : Value} {xs : List Int} (h : OwnQ w base e v xs) : ∃ k, v.ownBlock = some k := by
  obtain ⟨g, off, cap, cur, rfl, _⟩ := h
  exact ⟨g, rfl⟩
theorem ty_ne {k : Nat} {cs cs' : Array Value} {t t' : TypeId} {fr fr' : Nat × Nat} (h : w.heap[k]? = some (.cells cs t fr)) (h' : w.heap[k]? = some (.cells cs' t' fr')) (hne : t ≠ t') : False := by
  rw [h] at h'
  injection h' with h'; injection h' with _ h' _
  exact hne h'
/-- A step that turns one block only, none of its parts' (the queue, the rows, the truths, the map, the machine): all stays. -/
theorem OfR.other {row : Option Nat} (h : OfR M C wo gO D a q R T vq vN vT ok w) (hg : w.grownBy w' row) (hr : ∀ k, row = some k → D ≤ k ∧ vq.ownBlock ≠ some k ∧ vN.ownBlock ≠ some k ∧ vT.ownBlock ≠ some k ∧ (∀ cur : Array Value, w.heap[k]? = some (.cells cur 3 (0, 0)) → ¬ ok k)) : OfR M C wo gO D a q R T vq vN vT ok w' := by
  have hD := h.lt
  have hlt : gO < w.heap.size := (Array.getElem?_eq_some_iff.1 h.out).1
  refine ⟨h.que.kept hg ?_, (hg.block gO hlt fun e => by have := (hr gO e.symm).1; omega).trans h.out, h.rows.grown hg (fun k hk _ _ => (hr k hk).2.2.1) (fun k cur hk _ hc => (hr k hk).2.2.2.2 cur hc), h.tks.kept hg ?_, h.map.kept hg ?_, h.low.grown hg (by have := h.low.size; omega) (fun k hk => by have := (hr k hk).1; omega), h.ne, h.lt⟩
  · obtain ⟨k, hk⟩ := h.que.some
    rw [hk]
    intro e
    exact (hr k e.symm).2.1 hk
  · cases hv : vT.ownBlock with
    | none => exact .inl rfl
    | some k =>
      right
      rw [← hv]
      intro e
      rw [hv] at e
      exact (hr k e.symm).2.2.2.1 hv
  · intro e
    have := (hr (gO + 1) e.symm).1
    omega
theorem OfR.alloc (h : OfR M C wo gO D a q R T vq vN vT ok w) (o : Obj) : OfR M C wo gO D a q R T vq vN vT ok (w.alloc o) := h.other (World.grownBy_alloc w o none) (fun k hk => by cases hk)
theorem OfR.drewN (h : OfR M C wo gO D a q R T vq vN vT ok w) (n : Nat) : OfR M C wo gO D a q R T vq vN vT ok (w.drewN n) :=
  ⟨h.que, h.out, h.rows, h.tks, h.map, below_drewN h.low n, h.ne, h.lt⟩
theorem OfR.weak (h : OfR M C wo gO D a q R T vq vN vT ok w) (hw : ∀ b, b < w.heap.size → ok b → ok' b) (hn : ∀ b, vq.ownBlock = some b → ¬ ok' b) : OfR M C wo gO D a q R T vq vN vT ok' w :=
  ⟨h.que, h.out, h.rows.weak hw, h.tks, h.map, h.low, hn, h.lt⟩
/-- One truth more. -/
theorem OfR.addT {v' : Value} {b : Bool} {w6 : World} (h : OfR M C wo gO D a q R T vq vN vT ok w) (hgr : w.grownBy w6 vT.ownBlock) (hl : v'.ownBlock = vT.ownBlock ∨ ∃ g, v'.ownBlock = some g ∧ w.heap.size ≤ g)
    (hown : w6.ownsRow D 4 1 v' ((T ++ [b]).map Value.bool).length ((T ++ [b]).map Value.bool)) : OfR M C wo gO D a q R (T ++ [b]) vq vN v' ok (w6.setCell ⟨gO, 2, none⟩ v') := by
  have hD := h.lt
  have hlt : gO < w.heap.size := (Array.getElem?_eq_some_iff.1 h.out).1
  have hTk : ∀ k, vT.ownBlock = some k → D ≤ k ∧ ∃ cs fr, w.heap[k]? = some (.cells cs 4 fr) := fun k hk => ⟨own_lt h.tks hk, by
    rcases h.tks.2 with ⟨rfl, _⟩ | ⟨g, cap, cur, rfl, _, hg, _⟩
    · cases hk
    · obtain rfl : g = k := by injection hk
      exact ⟨_, _, hg⟩⟩
  have ho6 : w6.heap[gO]? = some (.cells #[S M.sg, vN, vT] 25 (0, 0)) := (hgr.block gO hlt fun e => by have := (hTk gO e.symm).1; omega).trans h.out
  have hs6 := hgr.size
  have hq6 : OwnQ w6 D 3 vq ((q.drop a).map fun x : Nat => (x : Int)) := h.que.kept hgr (by
    obtain ⟨k, hk⟩ := h.que.some
    rw [hk]
    intro e
    obtain ⟨cur, hc⟩ := h.que.typed hk
    obtain ⟨_, cs, fr, hb⟩ := hTk k e.symm
    exact ty_ne hc hb (by decide))
  have hN6 : KZ w6 D vN R ok := h.rows.grown hgr (fun k hk _ _ hv => by
    obtain ⟨cs, fr, hc⟩ := h.rows.type hv
    obtain ⟨_, cs', fr', hb⟩ := hTk k hk
    exact ty_ne hc hb (by decide)) (fun k cur hk _ hc => by
    obtain ⟨_, cs', fr', hb⟩ := hTk k hk
    exact absurd (ty_ne hc hb (by decide)) id)
  have hm6 := h.map.kept hgr (fun e => by have := (hTk (gO + 1) e.symm).1; omega)
  have hl6 := h.low.grown hgr (by have := h.low.size; omega) (fun k hk => by have := (hTk k hk).1; omega)
  have hst := grown_set w6 gO 2 v'
  refine ⟨hq6.kept hst ?_, set_at2 ho6, hN6.grown hst (fun k hk hd _ => by injection hk with hk; omega) (fun k cur hk hd _ => by injection hk with hk; omega), hown.kept hst ?_, hm6.kept hst (by intro e; injection e with e; omega), hl6.setCell (p := ⟨gO, 2, none⟩) (Nat.le_refl _) _, h.ne, h.lt⟩
  · obtain ⟨k, hk⟩ := h.que.some
    have := (h.que.lt hk).1
    rw [hk]; intro e; injection e with e; omega
  · cases hv : v'.ownBlock with
    | none => exact .inl rfl
    | some k =>
      right
      rw [← hv]; intro e; rw [hv] at e; injection e with e
      have := own_lt hown hv
      omega
/-- One state more is met: the map's entry, and the queue's. -/
theorem OfR.addQ {P : Nat → Prop} {vq' : Value} {t : Nat} {wy wz : World} (h : OfR M C wo gO D a q R T vq vN vT (fun b => vq.ownBlock ≠ some b ∧ P b) w) (ha : a ≤ q.length)
    (hg1 : w.grownBy wy (some (gO + 1))) (hmap : wy.ownsMap Tryd.prog 3 PE (gO + 1) (q.length + 1) ((mapD (clM C q) q.length).put (.int .i64 (gi C t)) (.lit (.int .i64 (q.length : Int)))))
    (hg2 : wy.grownBy wz vq.ownBlock) (hl : vq'.ownBlock = vq.ownBlock ∨ ∃ g, vq'.ownBlock = some g ∧ wy.heap.size ≤ g) (hq : OwnQ wz D 3 vq' ((q.drop a).map (fun x : Nat => (x : Int)) ++ [(t : Int)])) :
    OfR M C wo gO D a (q ++ [t]) R T vq' vN vT (fun b => vq'.ownBlock ≠ some b ∧ P b) wz := by
  have hD := h.lt
  have hlt : gO < w.heap.size := (Array.getElem?_eq_some_iff.1 h.out).1
  have hs1 := hg1.size
  have hQk : ∀ k, vq.ownBlock = some k → D ≤ k ∧ k < w.heap.size ∧ ∃ cur, w.heap[k]? = some (.cells cur 3 (0, 0)) := fun k hk => ⟨(h.que.lt hk).1, (h.que.lt hk).2, h.que.typed hk⟩
  have hQy : ∀ k, vq.ownBlock = some k → ∃ cur, wy.heap[k]? = some (.cells cur 3 (0, 0)) := fun k hk => by
    obtain ⟨h1, h2, cur, hc⟩ := hQk k hk
    exact ⟨cur, (hg1.block k h2 (by intro e; injection e with e; omega)).trans hc⟩
  have hNy : KZ wy D vN R (fun b => vq.ownBlock ≠ some b ∧ P b) := h.rows.grown hg1 (fun k hk hd _ => by injection hk with hk; omega) (fun k cur hk hd _ => by injection hk with hk; omega)
  have hNy3 : KZ wy D vN R (fun b => vq.ownBlock ≠ some b ∧ P b ∧ vq'.ownBlock ≠ some b) := hNy.weak fun b hb hok => ⟨hok.1, hok.2, by
    rcases hl with e | ⟨g, e, hg⟩
    · rw [e]; exact hok.1
    · rw [e]; intro e2; injection e2 with e2; omega⟩
  have hNz : KZ wz D vN R (fun b => vq.ownBlock ≠ some b ∧ P b ∧ vq'.ownBlock ≠ some b) := hNy3.grown hg2 (fun k hk _ _ hv => by
    obtain ⟨cs, fr, hc⟩ := hNy.type hv
    obtain ⟨cur, hb⟩ := hQy k hk
    exact ty_ne hc hb (by decide)) (fun k cur hk _ _ hok => hok.1 hk)
  have hTy : wy.ownsRow D 4 1 vT (T.map Value.bool).length (T.map Value.bool) := h.tks.kept hg1 (by
    cases hv : vT.ownBlock with
    | none => exact .inl rfl
    | some k =>
      right
      rw [← hv]; intro e; rw [hv] at e; injection e with e
      have := own_lt h.tks hv
      omega)
  have hTz := hTy.kept hg2 (by
    cases hv : vT.ownBlock with
    | none => exact .inl rfl
    | some k =>
      right
      rw [← hv]; intro e; rw [hv] at e
      obtain ⟨cur, hb⟩ := hQy k e.symm
      rcases hTy.2 with ⟨rfl, _⟩ | ⟨g, cap, cu, rfl, _, hgg, _⟩
      · cases hv
      · obtain rfl : g = k := by injection hv
        exact ty_ne hgg hb (by decide))
  have hoy : wy.heap[gO]? = some (.cells #[S M.sg, vN, vT] 25 (0, 0)) := (hg1.block gO hlt (by intro e; injection e with e; omega)).trans h.out
  refine ⟨?_, (hg2.block gO (by omega) (fun e => by have := (hQk gO e.symm).1; omega)).trans hoy, ?_, hTz, ?_, (h.low.grown hg1 (by have := h.low.size; omega) (fun k hk => by injection hk with hk; omega)).grown hg2 (by have := h.low.size; omega) (fun k hk => by have := (hQk k hk).1; omega), fun b hb hok => hok.1 hb, h.lt⟩
  · rw [List.drop_append_of_le_length ha, List.map_append]; exact hq
  · exact hNz.weak fun b _ hok => ⟨hok.2.2, hok.2.1⟩
  · rw [mapD_snoc, List.length_append, List.length_singleton]
    exact hmap.kept hg2 (by
      obtain ⟨k, hk⟩ := h.que.some
      have := (hQk k hk).1
      rw [hk]; intro e; injection e with e; omega)
/-- A store into the row that is being made. -/
theorem OfR.setR {gR k : Nat} {cs : List Value} {u : Value} (h : OfR M C wo gO D a q R T vq vN vT (fun b => vq.ownBlock ≠ some b ∧ b ≠ gR) w) (hb : Blk w gR 3 cs) (hD : D ≤ gR) (hq : vq.ownBlock ≠ some gR) :
    OfR M C wo gO D a q R T vq vN vT (fun b => vq.ownBlock ≠ some b ∧ b ≠ gR) (w.setCell ⟨gR, k, none⟩ u) := by
  refine h.other (grown_set w gR k u) fun k' hk => ?_
  injection hk with hk
  subst hk
  refine ⟨hD, hq, fun e => ?_, fun e => ?_, fun cur _ hok => hok.2 rfl⟩
  · obtain ⟨cs', fr, hc⟩ := h.rows.type e
    exact ty_ne hb hc (by decide)
  · rcases h.tks.2 with ⟨rfl, _⟩ | ⟨g, cap, cu, rfl, _, hgg, _⟩
    · cases e
    · obtain rfl : g = gR := by injection e
      exact ty_ne hb hgg (by decide)
/-- One row more. -/
theorem OfR.addN {gk m cap : Nat} {K : List Int} {cu : Array Value} {KC : List Value} {v' : Value} {w6 : World} (h : OfR M C wo gO D a q R T vq vN vT ok w) (h1 : KC.length = R.length)
    (h3 : ∀ j, j < R.length → ∃ b m c cur, KC[j]? = some (.slice (some ⟨b, 0, none⟩) m c) ∧ D ≤ b ∧ ok b ∧ w.heap[b]? = some (.cells cur 3 (0, 0)) ∧ (ro R j).length = m ∧ ∀ d, d < m → cur[d]? = some (.int .i64 (gi (ro R j) d)))
    (hg1 : D ≤ gk) (hok : ok gk) (hk : w.heap[gk]? = some (.cells cu 3 (0, 0))) (hK : K.length = m) (hc : ∀ d, d < m → cu[d]? = some (.int .i64 (gi K d)))
    (hgr : w.grownBy w6 vN.ownBlock) (hown : w6.ownsRow D 44 1 v' (KC ++ [Value.slice (some ⟨gk, 0, none⟩) m cap]).length (KC ++ [Value.slice (some ⟨gk, 0, none⟩) m cap])) :
    OfR M C wo gO D a q (R ++ [K]) T vq v' vT ok (w6.setCell ⟨gO, 1, none⟩ v') := by
  have hD := h.lt
  have hlt : gO < w.heap.size := (Array.getElem?_eq_some_iff.1 h.out).1
  have hs6 := hgr.size
  have hNk : ∀ k, vN.ownBlock = some k → D ≤ k ∧ ∃ cs fr, w.heap[k]? = some (.cells cs 44 fr) := fun k hk => ⟨(h.rows.lt hk).1, h.rows.type hk⟩
  have hN6 : KZ w6 D v' (R ++ [K]) ok := KZ.snoc h1 h3 hg1 hok hk hK hc (fun k hk => (hNk k hk).2) hown hgr
  have ho6 : w6.heap[gO]? = some (.cells #[S M.sg, vN, vT] 25 (0, 0)) := (hgr.block gO hlt fun e => by have := (hNk gO e.symm).1; omega).trans h.out
  have hq6 : OwnQ w6 D 3 vq ((q.drop a).map fun x : Nat => (x : Int)) := h.que.kept hgr (by
    obtain ⟨k, hk⟩ := h.que.some
    rw [hk]
    intro e
    obtain ⟨cur, hc⟩ := h.que.typed hk
    obtain ⟨_, cs, fr, hb⟩ := hNk k e.symm
    exact ty_ne hc hb (by decide))
  have hT6 := h.tks.kept hgr (by
    cases hv : vT.ownBlock with
    | none => exact .inl rfl
    | some k =>
      right
      rw [← hv]; intro e; rw [hv] at e
      obtain ⟨_, cs, fr, hb⟩ := hNk k e.symm
      rcases h.tks.2 with ⟨rfl, _⟩ | ⟨g, cap, cu, rfl, _, hgg, _⟩
      · cases hv
      · obtain rfl : g = k := by injection hv
        exact ty_ne hgg hb (by decide))
  have hm6 := h.map.kept hgr (fun e => by have := (hNk (gO + 1) e.symm).1; omega)
  have hl6 := h.low.grown hgr (by have := h.low.size; omega) (fun k hk => by have := (hNk k hk).1; omega)
  have hst := grown_set w6 gO 1 v'
  refine ⟨hq6.kept hst ?_, set_at1 ho6, hN6.grown hst (fun k hk hd _ => by injection hk with hk; omega) (fun k cur hk hd _ => by injection hk with hk; omega), hT6.kept hst ?_, hm6.kept hst (by intro e; injection e with e; omega), hl6.setCell (p := ⟨gO, 1, none⟩) (Nat.le_refl _) _, h.ne, h.lt⟩
  · obtain ⟨k, hk⟩ := h.que.some
    have := (h.que.lt hk).1
    rw [hk]; intro e; injection e with e; omega
  · cases hv : vT.ownBlock with
    | none => exact .inl rfl
    | some k =>
      right
      rw [← hv]; intro e; rw [hv] at e; injection e with e
      have := own_lt h.tks hv
      omega
/-- The first one of the queue is done with. -/
theorem OfR.pop {g off cap n x : Nat} {xs : List Int} (h : OfR M C wo gO D a q R T (.slice (some ⟨g, off, none⟩) (n + 1) cap) vN vT (fun b => (Value.slice (some ⟨g, off, none⟩) (n + 1) cap).ownBlock ≠ some b) w) (hq : q.drop a = x :: q.drop (a + 1)) (hx : (q.drop (a + 1)).map (fun x : Nat => (x : Int)) = xs) (hn : xs.length = n) :
    OfR M C wo gO D (a + 1) q R T (.slice (if cap = 1 then some ⟨g, off, none⟩ else some ⟨g, off + 1, none⟩) n (cap - 1)) vN vT (fun b => (Value.slice (if cap = 1 then some ⟨g, off, none⟩ else some ⟨g, off + 1, none⟩) n (cap - 1)).ownBlock ≠ some b) w := by
  have hb : (Value.slice (if cap = 1 then some ⟨g, off, none⟩ else some ⟨g, off + 1, none⟩) n (cap - 1)).ownBlock = some g := by split <;> rfl
  have hque := h.que
  rw [hq, List.map_cons, hx] at hque
  subst hn
  refine ⟨by rw [hx]; exact hque.tail, h.out, h.rows.weak fun b _ hok => by rw [hb]; exact hok, h.tks, h.map, h.low, fun b hbb hok => hok hbb, h.lt⟩
end
end Go.Proofs.YtfglajddibjnjaaDoor
