/- package least's classes, at a machine that nothing is wrong with. No condition. -/
import Derived.Test.YtfglajddibjnjaaDoorLsE
import Derived.Laws.AppendOwnNone
import Derived.Deep.RegionHeld3
namespace Go.Proofs.YtfglajddibjnjaaDoor
open Go.RowKit IntWalk
set_option linter.unusedSimpArgs false
attribute [local go_sem] byte_at str_app
attribute [local go_sem ↓] Go.wp_at_zero Go.wp_at_succ

theorem info_intL : (Tryd.prog.info? 3).map (fun i => (i.zero, i.size, i.bytes)) = some (some (.int .i64 0), 1, 8) := by kernel_rfl
theorem info_rowsL : (Tryd.prog.info? 44).map (fun i => (i.zero, i.size, i.bytes)) = some (some (.slice none 0 0), 1, 24) := by kernel_rfl
theorem row_cellL {W : World} {g k : Nat} {E : List Int} (hb : Blk W g 3 (E.map (Value.int .i64))) (hk : k < E.length) : W.cell? ⟨g, k, none⟩ = some (.int .i64 (gi E k)) := by
  rw [hb.cell k, List.getElem?_map, List.getElem?_eq_getElem hk, ← gi_eq hk]; rfl
theorem blk_setL {W : World} {g k : Nat} {v : Int} {E : List Int} (hb : Blk W g 3 (E.map (Value.int .i64))) : Blk (W.setCell ⟨g, k, none⟩ (.int .i64 v)) g 3 ((E.set k v).map (Value.int .i64)) := by
  have := hb.set_ k (.int .i64 v)
  rwa [← List.map_set] at this
theorem Ints.of_blk {W : World} {g n B : Nat} {E : List Int} (hb : Blk W g 3 (E.map (Value.int .i64))) (hn : E.length = n) (hB : g < B) : Ints W B (some ⟨g, 0, none⟩) n E :=
  ⟨hn, fun _ => ⟨g, 0, rfl, hB, fun j hj => by rw [Nat.zero_add]; exact row_cellL hb (by omega)⟩⟩

/-- Rows of numbers that the call owns: a row of slices, each in a block of its own. -/
def KRel (w : World) (D : Nat) (v : Value) (KS : List (List Int)) : Prop :=
  ∃ KC : List Value, KC.length = KS.length ∧ w.ownsRow D 44 1 v KC.length KC ∧ ∀ j, j < KS.length → ∃ b m c, KC[j]? = some (.slice (some ⟨b, 0, none⟩) m c) ∧ D ≤ b ∧ b < w.heap.size ∧ v.ownBlock ≠ some b ∧ (ro KS j).length = m ∧ ∀ d, d < m → w.cell? ⟨b, d, none⟩ = some (.int .i64 (gi (ro KS j) d))
theorem KRel.nil (w : World) (D : Nat) : KRel w D (.slice none 0 0) [] := ⟨[], rfl, World.ownsRow_nil _ _ _ _, fun j hj => absurd hj (by simp)⟩
theorem KRel.shape {w : World} {D : Nat} {v : Value} {KS : List (List Int)} (h : KRel w D v KS) : ∃ A c, v = .slice A KS.length c := by
  obtain ⟨KC, h1, h2, _⟩ := h
  obtain ⟨A, c, e, _⟩ := own_shape h2
  exact ⟨A, c, by rw [e, h1]⟩
theorem KRel.rows {w : World} {D n c : Nat} {A : Option Addr} {KS : List (List Int)} (h : KRel w D (.slice A n c) KS) : Rws w w.heap.size A n KS := by
  obtain ⟨KC, h1, h2, h3⟩ := h
  have hn : KC.length = n := by
    rcases own_shape h2 with ⟨A', c', e, _⟩
    injection e with _ e _
    exact e.symm
  refine ⟨by rw [← h1, hn], fun hp => ?_⟩
  rcases h2.2 with ⟨e, h0⟩ | ⟨g, cap, cur, e, hg, hh, _, _, _, htake⟩
  · omega
  · injection e with e1 e2 e3
    subst e1
    refine ⟨g, 0, rfl, (Array.getElem?_eq_some_iff.1 hh).1, fun j hj => ?_⟩
    obtain ⟨b, m, cc, k1, k2, k3, k4, k5, k6⟩ := h3 j (by omega)
    refine ⟨some ⟨b, 0, none⟩, m, cc, ?_, k5, fun _ => ⟨b, 0, rfl, k3, fun d hd => by rw [Nat.zero_add]; exact k6 d hd⟩⟩
    have := h2.cells (g := g) rfl j _ k1
    rw [Nat.zero_add]
    rwa [Addr.add_lit, Nat.zero_add] at this
theorem KRel.grown {w w' : World} {D : Nat} {v : Value} {KS : List (List Int)} {row : Option Nat} (h : KRel w D v KS) (hg : w.grownBy w' row) (hr : ∀ k, row = some k → k < D ∨ w.heap.size ≤ k) : KRel w' D v KS := by
  obtain ⟨KC, h1, h2, h3⟩ := h
  refine ⟨KC, h1, h2.kept hg ?_, fun j hj => ?_⟩
  · cases hv : v.ownBlock with
    | none => exact .inl rfl
    | some k =>
      right
      rw [← hv]
      intro e
      rw [hv] at e
      have := h2.lt k hv
      rcases hr k e.symm with q | q <;> omega
  · obtain ⟨b, m, c, k1, k2, k3, k4, k5, k6⟩ := h3 j hj
    refine ⟨b, m, c, k1, k2, Nat.lt_of_lt_of_le k3 hg.size, k4, k5, fun d hd => ?_⟩
    rw [← k6 d hd]
    refine World.cell?_of_block (a := ⟨b, d, none⟩) (hg.block b k3 fun e => ?_)
    rcases hr b e.symm with q | q <;> omega
theorem KRel.below {w w' : World} {D B : Nat} {v : Value} {KS : List (List Int)} (h : KRel w D v KS) (hb : Below B w w') (hB : w.heap.size ≤ B) : KRel w' D v KS := by
  obtain ⟨KC, h1, h2, h3⟩ := h
  refine ⟨KC, h1, own_below h2 hb hB, fun j hj => ?_⟩
  obtain ⟨b, m, c, k1, k2, k3, k4, k5, k6⟩ := h3 j hj
  exact ⟨b, m, c, k1, k2, Nat.lt_of_lt_of_le k3 hb.size, k4, k5, fun d hd => by rw [← k6 d hd]; exact hb.cell (p := ⟨b, d, none⟩) (show b < B by omega)⟩
theorem KRel.set_ {w : World} {D g i : Nat} {v : Value} {KS : List (List Int)} (h : KRel w D v KS) (hg : g < D) (u : Value) : KRel (w.setCell ⟨g, i, none⟩ u) D v KS :=
  h.grown (row := some g) ⟨rfl, rfl, rfl, by simp [World.setCell], fun k _ hk => Below.heap_setCell _ _ _ _ (fun e => hk (by simp [e]))⟩ fun k hk => .inl (by injection hk with hk; omega)
/-- One row more: behind an append of a slice that lies in a block of its own. -/
theorem KRel.snoc {w w' : World} {D x gk m cap : Nat} {v v' : Value} {KS : List (List Int)} {K : List Int} {KC : List Value} (h1 : KC.length = KS.length) (_h2 : w.ownsRow D 44 1 v KC.length KC) (h3 : ∀ j, j < KS.length → ∃ b m c, KC[j]? = some (.slice (some ⟨b, 0, none⟩) m c) ∧ D ≤ b ∧ b < w.heap.size ∧ v.ownBlock ≠ some b ∧ (ro KS j).length = m ∧ ∀ d, d < m → w.cell? ⟨b, d, none⟩ = some (.int .i64 (gi (ro KS j) d))) (hx : ∀ k, v.ownBlock = some k → k < x) (hD : D ≤ x) (hxg : x ≤ gk) (hgs : gk < w.heap.size)
    (hK : K.length = m) (hc : ∀ d, d < m → w.cell? ⟨gk, d, none⟩ = some (.int .i64 (gi K d))) (hKC : w'.ownsRow D 44 1 v' (KC ++ [Value.slice (some ⟨gk, 0, none⟩) m cap]).length (KC ++ [Value.slice (some ⟨gk, 0, none⟩) m cap]))
    (hg : w.grownBy w' v.ownBlock) (hl : v'.ownBlock = v.ownBlock ∨ ∃ g, v'.ownBlock = some g ∧ w.heap.size ≤ g) : KRel w' D v' (KS ++ [K]) := by
  have old : ∀ b, b < w.heap.size → v.ownBlock ≠ some b → v'.ownBlock ≠ some b := by
    intro b hb hn e
    rcases hl with q | ⟨g, q, hq⟩
    · exact hn (q ▸ e)
    · rw [q] at e; injection e with e; omega
  have keep : ∀ b d, b < w.heap.size → v.ownBlock ≠ some b → w'.cell? ⟨b, d, none⟩ = w.cell? ⟨b, d, none⟩ := fun b d hb hn => World.cell?_of_block (a := ⟨b, d, none⟩) (hg.block b hb fun e => hn e.symm)
  refine ⟨KC ++ [.slice (some ⟨gk, 0, none⟩) m cap], by simp [h1], hKC, fun j hj => ?_⟩
  rw [List.length_append, List.length_singleton] at hj
  by_cases hjl : j < KS.length
  · obtain ⟨b, m', c, k1, k2, k3, k4, k5, k6⟩ := h3 j hjl
    have e : ro (KS ++ [K]) j = ro KS j := by unfold ro; rw [List.getElem?_append_left hjl]
    rw [e]
    exact ⟨b, m', c, by rw [List.getElem?_append_left (by omega)]; exact k1, k2, Nat.lt_of_lt_of_le k3 hg.size, old b k3 k4, k5, fun d hd => by rw [keep b d k3 k4]; exact k6 d hd⟩
  · obtain rfl : j = KS.length := by omega
    have e : ro (KS ++ [K]) KS.length = K := by unfold ro; simp
    rw [e]
    have hn : v.ownBlock ≠ some gk := fun e => by have := hx gk e; omega
    exact ⟨gk, m, cap, by rw [← h1]; simp, by omega, Nat.lt_of_lt_of_le hgs hg.size, old gk hgs hn, hK, fun d hd => by rw [keep gk d hgs hn]; exact hc d hd⟩

theorem own_at {w : World} {base n c : Nat} {A : Option Addr} {L : List Int} (h : w.ownsRow base 3 1 (.slice A (n + 1) c) (n + 1) (L.map (Value.int .i64))) : ∃ g, A = some ⟨g, 0, none⟩ ∧ base ≤ g ∧ g < w.heap.size ∧ ∀ d, d < n + 1 → w.cell? ⟨g, d, none⟩ = some (.int .i64 (gi L d)) := by
  rcases h.2 with ⟨_, h0⟩ | ⟨g, cap, cur, hv, hb, hg, _⟩
  · omega
  · have hA : A = some ⟨g, 0, none⟩ := by injection hv
    subst hA
    refine ⟨g, rfl, hb, (Array.getElem?_eq_some_iff.1 hg).1, fun d hd => ?_⟩
    have hl : L.length = n + 1 := by simpa using h.1
    have := h.cells (g := g) rfl d (.int .i64 (gi L d)) (by rw [List.getElem?_map, List.getElem?_eq_getElem (by omega), gi_eq (by omega)]; rfl)
    rwa [Addr.add_lit, Nat.zero_add] at this
theorem own_one {w : World} {base x : Nat} {e : TypeId} {u : Value} (h : w.heap[x]? = some (.cells #[u] e (0, 0))) (hb : base ≤ x) : w.ownsRow base e 1 (.slice (some ⟨x, 0, none⟩) 1 1) 1 [u] :=
  ⟨rfl, .inr ⟨x, 1, #[u], rfl, hb, h, Nat.le_refl _, by simp [maxLen], rfl, rfl⟩⟩
/-- The first classes while they are filled. -/
def C0 (M : Mc) (j : Nat) (E : List Int) : Prop := E.length = M.n ∧ ∀ i, i < M.n → gi E i = if i < j ∧ bo M.tk i = true then 1 else 0
theorem C0.start (M : Mc) : C0 M 0 (List.replicate M.n 0) := ⟨by simp, fun i _ => by rw [gi_replicate, if_neg (by omega)]⟩
theorem C0.yes {M : Mc} {j : Nat} {E : List Int} (h : C0 M j E) (hj : j < M.n) (ht : bo M.tk j = true) : C0 M (j + 1) (E.set j 1) := by
  refine ⟨by rw [List.length_set]; exact h.1, fun i hi => ?_⟩
  by_cases e : i = j
  · subst e; rw [gi_set_self (by rw [h.1]; exact hj), if_pos ⟨by omega, ht⟩]
  · rw [gi_set_ne (fun h => e h.symm), h.2 i hi]
    by_cases hb : i < j ∧ bo M.tk i = true
    · rw [if_pos hb, if_pos ⟨by omega, hb.2⟩]
    · rw [if_neg hb, if_neg (fun h => hb ⟨by omega, h.2⟩)]
theorem C0.no {M : Mc} {j : Nat} {E : List Int} (h : C0 M j E) (ht : bo M.tk j = false) : C0 M (j + 1) E := by
  refine ⟨h.1, fun i hi => ?_⟩
  rw [h.2 i hi]
  by_cases hb : i < j ∧ bo M.tk i = true
  · rw [if_pos hb, if_pos ⟨by omega, hb.2⟩]
  · rw [if_neg hb, if_neg]
    rintro ⟨h1, h2⟩
    by_cases e : i = j
    · subst e; rw [ht] at h2; cases h2
    · exact hb ⟨by omega, h2⟩
theorem C0.fin {M : Mc} {E : List Int} (h : C0 M M.n E) : E = M.classR 0 :=
  ints_ext (by rw [h.1]; show M.n = M.class0.length; unfold Mc.class0; simp) fun i hi => by
    rw [h.1] at hi
    rw [h.2 i hi]
    show _ = gi M.class0 i
    rw [Mc.class0_gi hi]
    by_cases hb : bo M.tk i = true
    · rw [if_pos ⟨hi, hb⟩, if_pos hb]
    · rw [if_neg (fun h => hb h.2), if_neg hb]
theorem classR_len (M : Mc) : ∀ r, (M.classR r).length = M.n
  | 0 => by show M.class0.length = _; unfold Mc.class0; simp
  | r + 1 => M.nextC_len _
theorem key_len {M : Mc} (hM : M.Ok) (C : List Int) {i : Nat} (hi : i < M.n) : (M.key C i).length = M.s + 1 := by unfold Mc.key; rw [List.length_cons, List.length_map, hM.row i hi]
theorem key_take {M : Mc} (hM : M.Ok) (C : List Int) {i c : Nat} (hi : i < M.n) (hc : c < M.s) : (M.key C i).take (c + 2) = (M.key C i).take (c + 1) ++ [gi C (M.st i c)] := by
  rw [show c + 2 = (c + 1) + 1 from rfl, take_succ_gi (by rw [key_len hM C hi]; omega)]
  congr 2
  have hl : c < (ro M.nx i).length := by rw [hM.row i hi]; exact hc
  unfold Mc.key Mc.st
  rw [show gi (gi C i :: (ro M.nx i).map fun t => gi C t.toNat) (c + 1) = gi ((ro M.nx i).map fun t => gi C t.toNat) c from rfl]
  rw [gi_eq (by rw [List.length_map]; exact hl), List.getElem_map, gi_eq hl]
theorem keysI_small (M : Mc) (C : List Int) (i : Nat) : (M.keysI C i).length ≤ i := by rw [Mc.keysI_len]; exact cnt_le _ _
theorem keysI_row {M : Mc} (hM : M.Ok) (C : List Int) {i j : Nat} (hi : i ≤ M.n) (hj : j < (M.keysI C i).length) : (ro (M.keysI C i) j).length = M.s + 1 := by
  obtain ⟨k, hk, e⟩ := Mc.keysI_mem.1 (ro_mem hj)
  rw [← e, key_len hM C (by omega)]
/-- The row while the states are looked at. -/
def Nx (M : Mc) (C : List Int) (i : Nat) (E : List Int) : Prop := E.length = M.n ∧ ∀ k, k < i → gi E k = (M.atI C k : Int)
theorem Nx.step {M : Mc} {C : List Int} {i : Nat} {E : List Int} (h : Nx M C i E) (hi : i < M.n) : Nx M C (i + 1) (E.set i (M.atI C i : Int)) := by
  refine ⟨by rw [List.length_set]; exact h.1, fun k hk => ?_⟩
  by_cases e : k = i
  · subst e; rw [gi_set_self (by rw [h.1]; exact hi)]
  · rw [gi_set_ne (fun h => e h.symm)]; exact h.2 k (by omega)
theorem Nx.fin {M : Mc} {C : List Int} {E : List Int} (h : Nx M C M.n E) : E = M.nextC C :=
  ints_ext (by rw [h.1, M.nextC_len]) fun i hi => by
    rw [h.1] at hi
    rw [h.2 i hi, Mc.nextC_gi hi]

set_option maxRecDepth 100000 in
set_option maxHeartbeats 8000000 in
theorem classes_any (M : Mc) (hMo : M.Ok) (A A2 : Option Addr) (n c m c2 B : Nat) (w : World) (hM : MacW w B A n A2 m M) (hB : B ≤ w.heap.size) :
    Calls Tryd.prog 21 #[mcv M.sg A n c A2 m c2] w fun e w' => (∃ g r, e = .returned (.slice (some ⟨g, 0, none⟩) n n) ∧ Blk w' g 3 ((M.classR (r + 2)).map (Value.int .i64)) ∧ M.many r = M.many (r + 1)) ∧ Below w.heap.size w w' := by
  have hn := hM.n_eq
  have hm := hM.m_eq
  obtain rfl : m = n := by have := hMo.tak; omega
  obtain ⟨i0, hi0, hz0, hz1, hz2⟩ := info_parts info_intL
  obtain ⟨i1, hi1, hy0, hy1, hy2⟩ := info_parts info_rowsL
  have hm1000 : m ≤ 1000 := by have := hMo.small; omega
  have hm0 : 0 < m := by have := hMo.pos; omega
  have hmk := fun W => mk_ints (P := Tryd.prog) Tryd.underlying44 hi0 hz0 hz1 rfl (by omega) m (by omega) W
  obtain ⟨c0, c1, c2'⟩ := mac_cells w M.sg A m c A2 m c2 25
  have HB0 := Lib.hid ((Below.refl w.heap.size w).alloc (Nat.le_refl _) (.cells #[S M.sg, .slice A m c, .slice A2 m c2] 25))
  have HR0 := Lib.hid (hM.rows.alloc hB (.cells #[S M.sg, .slice A m c, .slice A2 m c2] 25))
  have HT0 := Lib.hid (hM.tks.alloc hB (.cells #[S M.sg, .slice A m c, .slice A2 m c2] 25))
  have HN := Lib.hid hn
  have HBw : Hid (B ≤ w.heap.size) := Lib.hid hB
  have HZ1 : Hid ((w.alloc (.cells #[S M.sg, .slice A m c, .slice A2 m c2] 25)).heap.size = w.heap.size + 1) := Lib.hid (by simp)
  have HO := Lib.hid hMo
  clear hM hB hn hm hMo
  generalize hw1 : w.alloc (.cells #[S M.sg, .slice A m c, .slice A2 m c2] 25) = w1 at *
  have k1 : ∀ o, (w1.alloc o).cell? ⟨w.heap.size, 1, none⟩ = some (.slice A m c) := fun o => (World.cell?_alloc_lt w1 o ⟨w.heap.size, 1, none⟩ (show w.heap.size < w1.heap.size by have := HZ1.out; omega)).trans c1
  have k2 : ∀ o, (w1.alloc o).cell? ⟨w.heap.size, 2, none⟩ = some (.slice A2 m c2) := fun o => (World.cell?_alloc_lt w1 o ⟨w.heap.size, 2, none⟩ (show w.heap.size < w1.heap.size by have := HZ1.out; omega)).trans c2'
  have HCE := Lib.hid (And.intro c0 (And.intro c1 c2'))
  go_enter Tryd.func21, Tryd.ntmps21
  go_wp2_with fail
  have HB1 : Hid (Below w1.heap.size w1 (w1.alloc (.cells (Array.replicate m (.int .i64 0)) 3))) := Lib.hid ((Below.refl _ w1).alloc (Nat.le_refl _) _)
  have HK1 : Hid (Blk (w1.alloc (.cells (Array.replicate m (.int .i64 0)) 3)) w1.heap.size 3 ((List.replicate M.n 0).map (Value.int .i64))) := Lib.hid (by
    have := Blk.new w1 3 (List.replicate m (.int .i64 0))
    rw [List.toArray_replicate] at this
    rw [List.map_replicate, HN.out]; exact this)
  generalize w1.alloc (.cells (Array.replicate m (.int .i64 0)) 3) = w2 at *
  clear k1 k2 hw1
  go_loopg [22] m (fun f iv wr => ∃ (j : Nat) (E : List Int), j + f = m ∧ iv = .int .i64 (j : Int) ∧ Hid (C0 M j E) ∧ Hid (Blk wr w1.heap.size 3 (E.map (Value.int .i64))) ∧ Hid (Below w1.heap.size w1 wr))
  case atStart => exact ⟨0, _, by omega, rfl, Lib.hid (C0.start M), HK1, HB1⟩
  case round =>
    obtain ⟨j, E, hjf, rfl, HC, HK, HB⟩ := hrel
    clear HK1 HB1
    by_cases hlt : j < m
    · obtain ⟨f, rfl⟩ : ∃ f, gk = f + 1 := ⟨gk - 1, by omega⟩
      have hbz : B ≤ w1.heap.size := by have := HBw.out; have := HZ1.out; omega
      obtain ⟨b, o, rfl, _, ct⟩ := (HT0.out.keep (w' := wr) (fun p hp => HB.out.cell (by omega))).at_ hlt
      have p1 : (j : Int) < (m : Int) := by omega
      have p2 : IntKind.i64.wrap ((j : Int) + 1) = (j : Int) + 1 := i64_in _ (by omega)
      have hjn : j < M.n := by have := HN.out; omega
      cases ht : bo M.tk j
      · have HC2 := Lib.hid (HC.out.no ht)
        rw [ht] at ct
        clear ht HC
        go_wp2_with fail
        go_roundg f
        case measure => omega
        case rel => exact ⟨j + 1, E, by omega, by simp, HC2, HK, HB⟩
      · have HC2 := Lib.hid (HC.out.yes hjn ht)
        rw [ht] at ct
        have s1 : wr.cell? ⟨w1.heap.size, j, none⟩ = some (.int .i64 (gi E j)) := row_cellL HK.out (by rw [HC.out.1]; exact hjn)
        have s2 : wr.frozen? ⟨w1.heap.size, j, none⟩ = false := HK.out.frozen _
        clear ht HC
        go_wp2_with fail
        go_roundg f
        case measure => omega
        case rel => exact ⟨j + 1, E.set j 1, by omega, by simp, HC2, Lib.hid (blk_setL HK.out), Lib.hid (HB.out.setCell (p := ⟨w1.heap.size, j, none⟩) (Nat.le_refl _) _)⟩
    · obtain rfl : m = j := by omega
      have HE : Hid (E = M.classR 0) := Lib.hid (by have h := HC.out; rw [← HN.out] at h; exact h.fin)
      rw [HE.out] at HK
      have p1 : ¬ (m : Int) < (m : Int) := by omega
      have HBZ : Hid (B ≤ w1.heap.size) := Lib.hid (by have := HBw.out; have := HZ1.out; omega)
      have HG0 : Hid (w.heap.size < w1.heap.size) := Lib.hid (by have := HZ1.out; omega)
      have HBT : Hid (w.heap.size ≤ w1.heap.size) := Lib.hid (by have := HZ1.out; omega)
      clear HC HE HT0 c0 c1 c2'
      go_wp2_with fail
      clear p1
      go_loopg [3, 6] (m + 1) (fun f cv mv wr => ∃ (r g many : Nat), f + many = m + 1 ∧ cv = .slice (some ⟨g, 0, none⟩) m m ∧ mv = .int .i64 (many : Int) ∧ Hid (many = if r = 0 then 0 else M.many (r - 1)) ∧ Hid (Blk wr g 3 ((M.classR r).map (Value.int .i64))) ∧ Hid (w1.heap.size ≤ g) ∧ Hid (Below w1.heap.size w1 wr))
      case atStart => exact ⟨0, w1.heap.size, 0, by omega, rfl, rfl, Lib.hid rfl, HK, Lib.hid (Nat.le_refl _), HB⟩
      case round =>
        clear HK HB
        obtain ⟨r, gC, many, hfm, rfl, rfl, HMY, HKC, HGC, HB⟩ := hrel
        have HCL := Lib.hid (classR_len M r)
        obtain ⟨k0, k1, k2⟩ : wr.cell? ⟨w.heap.size, 0, none⟩ = some (S M.sg) ∧ wr.cell? ⟨w.heap.size, 1, none⟩ = some (.slice A m c) ∧ wr.cell? ⟨w.heap.size, 2, none⟩ = some (.slice A2 m c2) :=
          ⟨(HB.out.cell (p := ⟨w.heap.size, 0, none⟩) HG0.out).trans HCE.out.1, (HB.out.cell (p := ⟨w.heap.size, 1, none⟩) HG0.out).trans HCE.out.2.1, (HB.out.cell (p := ⟨w.heap.size, 2, none⟩) HG0.out).trans HCE.out.2.2⟩
        have j1 : ∀ o, (wr.alloc o).cell? ⟨w.heap.size, 1, none⟩ = some (.slice A m c) := fun o => (World.cell?_alloc_lt wr o ⟨w.heap.size, 1, none⟩ (Nat.lt_of_lt_of_le HG0.out HB.out.size)).trans k1
        go_wp2_with fail
        have HB1 : Hid (Below wr.heap.size wr (wr.alloc (.cells (Array.replicate m (.int .i64 0)) 3))) := Lib.hid ((Below.refl _ wr).alloc (Nat.le_refl _) _)
        have HK1 : Hid (Blk (wr.alloc (.cells (Array.replicate m (.int .i64 0)) 3)) wr.heap.size 3 ((List.replicate M.n 0).map (Value.int .i64))) := Lib.hid (by
          have := Blk.new wr 3 (List.replicate m (.int .i64 0))
          rw [List.toArray_replicate] at this
          rw [List.map_replicate, HN.out]; exact this)
        have HNX : Hid (Nx M (M.classR r) 0 (List.replicate M.n 0)) := Lib.hid ⟨by simp, fun k hk => absurd hk (by omega)⟩
        have HZD : Hid (wr.heap.size + 1 ≤ (wr.alloc (.cells (Array.replicate m (.int .i64 0)) 3)).heap.size) := Lib.hid (by simp)
        generalize wr.alloc (.cells (Array.replicate m (.int .i64 0)) 3) = w3 at *
        clear j1
        obtain ⟨wo, rfl⟩ : ∃ wo, wo = wr := ⟨_, rfl⟩
        have HD1 : Hid (w1.heap.size ≤ wo.heap.size) := Lib.hid HB.out.size
        have HCg : Hid (gC < wo.heap.size) := Lib.hid HKC.out.lt
        go_loopg [7, 38] m (fun f kv iv wx => ∃ (i : Nat) (E : List Int), i + f = m ∧ iv = .int .i64 (i : Int) ∧ Hid (KRel wx (wo.heap.size + 1) kv (M.keysI (M.classR r) i)) ∧ Hid (Blk wx wo.heap.size 3 (E.map (Value.int .i64))) ∧ Hid (Nx M (M.classR r) i E) ∧ Hid (Below wo.heap.size wo wx) ∧ Hid (wo.heap.size + 1 ≤ wx.heap.size))
        case atStart => exact ⟨0, _, by omega, rfl, Lib.hid (KRel.nil _ _), HK1, HNX, HB1, HZD⟩
        case round =>
          obtain ⟨i, E, hif, rfl, HKR, HKN, HNE, HBx, HZx⟩ := hrel
          obtain ⟨A7, c7, e7⟩ := HKR.out.shape
          subst e7
          clear HK1 HNX HB1 HZD
          by_cases hlt : i < m
          · obtain ⟨f, rfl⟩ : ∃ f, gk = f + 1 := ⟨gk - 1, by omega⟩
            have HBw1 := Lib.hid (HB.out.trans (HBx.out.mono HD1.out))
            obtain ⟨b, o, a, mm, cc, rfl, _, cr, hI⟩ := (HR0.out.keep (w' := wr) (fun p hp => HBw1.out.cell (by have := HBZ.out; omega))).at_ hlt
            have hin : i < M.n := by have := HN.out; omega
            obtain rfl : mm = M.s := hI.1.symm.trans (HO.out.row i hin)
            have HI := Lib.hid hI
            have e1 : wr.cell? ⟨gC, i, none⟩ = some (.int .i64 (gi (M.classR r) i)) := row_cellL (HKC.out.below HBx.out HCg.out) (by rw [HCL.out]; exact hin)
            have p1 : (i : Int) < (m : Int) := by omega
            have p2 : IntKind.i64.wrap ((i : Int) + 1) = (i : Int) + 1 := i64_in _ (by omega)
            clear hI
            go_wp2_with fail
            have HX0 : Hid (Blk ((wr.alloc (.cells #[.int .i64 (gi (M.classR r) i)] 3)).alloc (.cells #[.slice (some ⟨wr.heap.size, 0, none⟩) 1 1] 44)) (wr.heap.size + 1) 44 [.slice (some ⟨wr.heap.size, 0, none⟩) 1 1]) := Lib.hid (by
              have := Blk.new (wr.alloc (.cells #[.int .i64 (gi (M.classR r) i)] 3)) 44 [.slice (some ⟨wr.heap.size, 0, none⟩) 1 1]
              rwa [World.size_alloc] at this)
            have HX1 : Hid (((wr.alloc (.cells #[.int .i64 (gi (M.classR r) i)] 3)).alloc (.cells #[.slice (some ⟨wr.heap.size, 0, none⟩) 1 1] 44)).ownsRow wr.heap.size 3 1 (.slice (some ⟨wr.heap.size, 0, none⟩) 1 1) (((M.key (M.classR r) i).take 1).map (Value.int .i64)).length (((M.key (M.classR r) i).take 1).map (Value.int .i64))) := Lib.hid (by
              have h0 : ((M.key (M.classR r) i).take 1).map (Value.int .i64) = [.int .i64 (gi (M.classR r) i)] := rfl
              rw [h0]
              exact (own_one (heap_alloc_new wr _) (Nat.le_refl _)).alloc _)
            have HX2 := Lib.hid (((Below.refl wr.heap.size wr).alloc (Nat.le_refl _) (.cells #[.int .i64 (gi (M.classR r) i)] 3)).alloc (by simp) (.cells #[.slice (some ⟨wr.heap.size, 0, none⟩) 1 1] 44))
            have HX3 : Hid (wr.heap.size + 2 ≤ ((wr.alloc (.cells #[.int .i64 (gi (M.classR r) i)] 3)).alloc (.cells #[.slice (some ⟨wr.heap.size, 0, none⟩) 1 1] 44)).heap.size) := Lib.hid (by simp)
            generalize (wr.alloc (.cells #[.int .i64 (gi (M.classR r) i)] 3)).alloc (.cells #[.slice (some ⟨wr.heap.size, 0, none⟩) 1 1] 44) = w4 at *
            obtain ⟨wi, rfl⟩ : ∃ wi, wi = wr := ⟨_, rfl⟩
            have HBi : Hid (B ≤ wi.heap.size) := Lib.hid (by have := HBZ.out; have := HD1.out; have := HBx.out.size; omega)
            have HCi : Hid (gC < wi.heap.size) := Lib.hid (by have := HCg.out; have := HBx.out.size; omega)
            have HKCi := Lib.hid (HKC.out.below HBx.out HCg.out)
            go_loopg [50] M.s (fun f2 iv wx => ∃ (q : Nat) (v : Value), q + f2 = M.s ∧ iv = .int .i64 (q : Int) ∧ Hid (Blk wx (wi.heap.size + 1) 44 [v]) ∧ Hid (wx.ownsRow wi.heap.size 3 1 v (((M.key (M.classR r) i).take (q + 1)).map (Value.int .i64)).length (((M.key (M.classR r) i).take (q + 1)).map (Value.int .i64))) ∧ Hid (v.ownBlock ≠ some (wi.heap.size + 1)) ∧ Hid (Below wi.heap.size wi wx) ∧ Hid (wi.heap.size + 2 ≤ wx.heap.size))
            case atStart => exact ⟨0, _, by omega, rfl, HX0, HX1, Lib.hid (by simp [Value.ownBlock]), HX2, HX3⟩
            case round =>
              obtain ⟨q, v, hqf, rfl, HBX, HOW, HNE2, HBy, HSy⟩ := hrel
              clear HX0 HX1 HX2 HX3
              obtain ⟨Av, cv, ev, _⟩ := own_shape HOW.out
              subst ev
              have hlen : (((M.key (M.classR r) i).take (q + 1)).map (Value.int .i64)).length = q + 1 := by
                rw [List.length_map, List.length_take, key_len HO.out _ hin]; omega
              rw [hlen] at HBX HOW HNE2
              have b0 : wr.cell? ⟨wi.heap.size + 1, 0, none⟩ = some (.slice Av (q + 1) cv) := by rw [HBX.out.cell]; rfl
              have b1 : wr.frozen? ⟨wi.heap.size + 1, 0, none⟩ = false := HBX.out.frozen 0
              by_cases hlq : q < M.s
              · obtain ⟨f2, rfl⟩ : ∃ f, gk = f + 1 := ⟨gk - 1, by omega⟩
                obtain ⟨b2, o2, rfl, _, ce⟩ := (HI.out.keep (w' := wr) (fun p hp => HBy.out.cell (Nat.lt_of_lt_of_le hp HBi.out))).at_ hlq
                have hst := HO.out.st_eq hin hlq
                have hsl := HO.out.st_lt hin hlq
                rw [hst] at ce
                have e2 : wr.cell? ⟨gC, M.st i q, none⟩ = some (.int .i64 (gi (M.classR r) (M.st i q))) := row_cellL (HKCi.out.below HBy.out HCi.out) (by rw [HCL.out]; exact hsl)
                have HTK := Lib.hid (key_take HO.out (M.classR r) hin hlq)
                have hslm : M.st i q < m := by have := HN.out; omega
                have p3 : (q : Int) < (M.s : Int) := by omega
                have p4 : IntKind.i64.wrap ((q : Int) + 1) = (q : Int) + 1 := i64_in _ (by have := HO.out.few; omega)
                have p5 : (M.st i q : Int) < (m : Int) := by omega
                clear hst hsl
                generalize gi (M.classR r) (M.st i q) = z at *
                generalize M.st i q = y at *
                go_wp2_with fail
                have b0d : wr.drew.cell? ⟨wi.heap.size + 1, 0, none⟩ = some (.slice Av (q + 1) cv) := b0
                have e2d : wr.drew.cell? ⟨gC, y, none⟩ = some (.int .i64 z) := e2
                have b0e : (wr.drew.alloc (.cells #[.int .i64 z] 3)).cell? ⟨wi.heap.size + 1, 0, none⟩ = some (.slice Av (q + 1) cv) := (World.cell?_alloc_lt wr.drew _ ⟨wi.heap.size + 1, 0, none⟩ (show wi.heap.size + 1 < wr.heap.size by have := HSy.out; omega)).trans b0d
                have b0e2 : (wr.alloc (.cells #[.int .i64 z] 3)).cell? ⟨wi.heap.size + 1, 0, none⟩ = some (.slice Av (q + 1) cv) := b0e
                have e2e : (wr.drew.alloc (.cells #[.int .i64 z] 3)).cell? ⟨gC, y, none⟩ = some (.int .i64 z) := (World.cell?_alloc_lt wr.drew _ ⟨gC, y, none⟩ (show gC < wr.heap.size by have := HSy.out; have := HCi.out; omega)).trans e2d
                have HOWd : Hid (wr.drew.ownsRow wi.heap.size 3 1 (.slice Av (q + 1) cv) (((M.key (M.classR r) i).take (q + 1)).map (Value.int .i64)).length (((M.key (M.classR r) i).take (q + 1)).map (Value.int .i64))) := Lib.hid (by rw [hlen]; exact HOW.out)
                refine wp_region_held_drew (S := fun W => W.cell? ⟨gC, y, none⟩ = some (.int .i64 z)) (by first | assumption | kernel_rfl | rfl) e2d (fun hH => ?_)
                refine wpAnyH_take (i := 1) (v := ?_) rfl (by kernel_rfl) (by kernel_rfl) (by kernel_rfl) (fun _ _ _ h => h) (Or.inl ⟨by rfl, ?_⟩) hH ?_
                rotate_left
                · intro W hSw; (try dsimp only at hSw); go_simp; try with_reducible rfl
                try simp only [Act.put, List.getElem_toArray, List.getElem_cons_zero, List.getElem_cons_succ, List.setIfInBounds_toArray, List.set_cons_zero, List.set_cons_succ]
                refine wpAnyH_take (i := 2) (v := ?_) rfl (by kernel_rfl) (by kernel_rfl) (by kernel_rfl) (fun _ _ _ h => h) (Or.inl ⟨by rfl, ?_⟩) hH ?_
                rotate_left
                · intro W hSw; (try dsimp only at hSw); go_simp; try with_reducible rfl
                try simp only [Act.put, List.getElem_toArray, List.getElem_cons_zero, List.getElem_cons_succ, List.setIfInBounds_toArray, List.set_cons_zero, List.set_cons_succ]
                refine wpAnyH_take (i := 3) (v := ?_) rfl (by kernel_rfl) (by kernel_rfl) (by kernel_rfl) (fun _ _ _ h => h) (Or.inl ⟨by rfl, ?_⟩) hH ?_
                rotate_left
                · intro W hSw; (try dsimp only at hSw); go_simp; try with_reducible rfl
                try simp only [Act.put, List.getElem_toArray, List.getElem_cons_zero, List.getElem_cons_succ, List.setIfInBounds_toArray, List.set_cons_zero, List.set_cons_succ]
                refine wpAnyH_take (i := 4) (v := ?_) rfl (by kernel_rfl) (by kernel_rfl) (by kernel_rfl) (fun _ _ _ h => h) (Or.inl ⟨by rfl, ?_⟩) hH ?_
                rotate_left
                · intro W hSw; (try dsimp only at hSw); go_simp; try with_reducible rfl
                try simp only [Act.put, List.getElem_toArray, List.getElem_cons_zero, List.getElem_cons_succ, List.setIfInBounds_toArray, List.set_cons_zero, List.set_cons_succ]
                refine wpAnyH_ready (rs := [0, 5]) (by kernel_rfl) (by simp) (AllReadyH.cons rfl (fun K hK => ?_) (AllReadyH.cons rfl (fun K hK => ?_) AllReadyH.nil))
                · go_simp
                  change K _ wr.drew
                  refine hK.out _ _ e2d (fun hH5 => ?_)
                  clear hK K
                  try simp only [Act.put, List.getElem_toArray, List.getElem_cons_zero, List.getElem_cons_succ, List.setIfInBounds_toArray, List.set_cons_zero, List.set_cons_succ]
                  refine wpAnyH_ready (rs := [5]) (by kernel_rfl) (by simp) (AllReadyH.cons rfl (fun K hK => ?_) AllReadyH.nil)
                  go_simp
                  change K _ (wr.drew.alloc (.cells #[.int .i64 z] 3))
                  refine hK.out _ _ e2e (fun hH5 => ?_)
                  clear hK K
                  try simp only [Act.put, List.getElem_toArray, List.getElem_cons_zero, List.getElem_cons_succ, List.setIfInBounds_toArray, List.set_cons_zero, List.set_cons_succ]
                  refine wpAnyH_ready (rs := [6]) (by kernel_rfl) (by simp) (AllReadyH.cons rfl (fun K hK => ?_) AllReadyH.nil)
                  rw [if_pos (by rfl)]
                  refine wp_append1g (.tmp 54) (.tmp 59) _ rfl 3 i0 _ Tryd.underlying44 hi0 hz0 hz1 (by omega) rfl wi.heap.size (.slice Av (q + 1) cv) _ (.int .i64 z) rfl rfl rfl HOWd.out (by rw [hlen]; have := HO.out.few; omega) (by have := HSy.out; show wi.heap.size ≤ wr.heap.size; omega) ?_
                  intro v2 w5 hown2 hgr2 hloc2
                  obtain ⟨Av2, nv2, cv2, ev2⟩ : ∃ A n c, v2 = .slice A n c := by obtain ⟨A', c', e, _⟩ := own_shape hown2; exact ⟨A', _, c', e⟩
                  subst ev2
                  have hb5 : w5.heap[wi.heap.size + 1]? = wr.heap[wi.heap.size + 1]? := hgr2.block (wi.heap.size + 1) (show wi.heap.size + 1 < wr.heap.size by have := HSy.out; omega) (fun e => HNE2.out e.symm)
                  have hc5 : w5.heap[gC]? = wr.heap[gC]? := hgr2.block gC (show gC < wr.heap.size by have := HSy.out; have := HCi.out; omega) (fun e => by have := own_lt HOW.out e.symm; have := HCi.out; omega)
                  have b0f : w5.cell? ⟨wi.heap.size + 1, 0, none⟩ = some (.slice Av (q + 1) cv) := (World.cell?_of_block (a := ⟨wi.heap.size + 1, 0, none⟩) hb5).trans b0
                  have b1f : w5.frozen? ⟨wi.heap.size + 1, 0, none⟩ = false := (World.frozen?_of_block (a := ⟨wi.heap.size + 1, 0, none⟩) hb5).trans b1
                  have e2f : w5.cell? ⟨gC, y, none⟩ = some (.int .i64 z) := (World.cell?_of_block (a := ⟨gC, y, none⟩) hc5).trans e2
                  have hBf := Lib.hid (HBy.out.grown (row := (Value.slice Av (q + 1) cv).ownBlock) (w' := w5) ⟨hgr2.os, hgr2.tape, hgr2.output, hgr2.size, hgr2.block⟩ (by have := HSy.out; omega) (fun k hk => own_lt HOW.out hk))
                  have hXf := Lib.hid (show Blk w5 (wi.heap.size + 1) 44 [.slice Av (q + 1) cv] from hb5.trans HBX.out)
                  have hn2 : (Value.slice Av2 nv2 cv2).ownBlock ≠ some (wi.heap.size + 1) := hloc2.elim (fun h => by rw [h]; exact HNE2.out) (fun ⟨g, h, hg⟩ => by rw [h]; intro e; injection e with e; have hg : wr.heap.size ≤ g := hg; have := HSy.out; omega)
                  have hsz5 : Hid (wi.heap.size + 2 ≤ w5.heap.size) := Lib.hid (Nat.le_trans HSy.out hgr2.size)
                  try simp only [Act.put, List.getElem_toArray, List.getElem_cons_zero, List.getElem_cons_succ, List.setIfInBounds_toArray, List.set_cons_zero, List.set_cons_succ]
                  refine hK.out _ _ e2f (fun hH7 => ?_)
                  clear hK K
                  try simp only [Act.put, List.getElem_toArray, List.getElem_cons_zero, List.getElem_cons_succ, List.setIfInBounds_toArray, List.set_cons_zero, List.set_cons_succ]
                  refine wpAnyH_ready (rs := [7]) (by kernel_rfl) (by simp) (AllReadyH.cons rfl (fun K hK => ?_) AllReadyH.nil)
                  go_simp
                  change K _ (w5.setCell ⟨wi.heap.size + 1, 0, none⟩ (.slice Av2 nv2 cv2))
                  have hXg := Lib.hid (hXf.out.set_ 0 (.slice Av2 nv2 cv2))
                  have hOg := Lib.hid (hown2.kept (row := some (wi.heap.size + 1)) (w' := w5.setCell ⟨wi.heap.size + 1, 0, none⟩ (.slice Av2 nv2 cv2)) ⟨rfl, rfl, rfl, by simp [World.setCell], fun k _ hk => Below.heap_setCell _ _ _ _ (fun e => hk (by simp [e]))⟩ (.inr hn2))
                  have hBg := Lib.hid (hBf.out.setCell (p := ⟨wi.heap.size + 1, 0, none⟩) (by show wi.heap.size ≤ wi.heap.size + 1; omega) (.slice Av2 nv2 cv2))
                  have e2g : (w5.setCell ⟨wi.heap.size + 1, 0, none⟩ (.slice Av2 nv2 cv2)).cell? ⟨gC, y, none⟩ = some (.int .i64 z) := (World.cell?_setCell_far w5 ⟨wi.heap.size + 1, 0, none⟩ ⟨gC, y, none⟩ (.slice Av2 nv2 cv2) (by show wi.heap.size + 1 ≠ gC; have := HCi.out; omega)).trans e2f
                  have hNg := Lib.hid hn2
                  have hSg : Hid (wi.heap.size + 2 ≤ (w5.setCell ⟨wi.heap.size + 1, 0, none⟩ (.slice Av2 nv2 cv2)).heap.size) := Lib.hid (by have := hsz5.out; simp only [World.setCell, Array.size_modify]; exact this)
                  rw [← List.map_singleton, ← List.map_append, ← HTK.out] at hOg
                  refine hK.out _ _ e2g (fun hH8 => ?_)
                  clear hK K
                  try simp only [Act.put, List.getElem_toArray, List.getElem_cons_zero, List.getElem_cons_succ, List.setIfInBounds_toArray, List.set_cons_zero, List.set_cons_succ]
                  refine wpAnyH_done (by kernel_rfl) ?_ _
                  generalize w5.setCell ⟨wi.heap.size + 1, 0, none⟩ (.slice Av2 nv2 cv2) = w6 at *
                  clear b0d e2d b0e b0e2 e2e b0f b1f e2f e2g hb5 hc5 hn2 hown2 hgr2 hloc2 hBf hXf hsz5 HOWd
                  go_wp2_with fail
                  go_roundg f2
                  case measure => omega
                  case rel => exact ⟨q + 1, .slice Av2 nv2 cv2, by omega, by simp, hXg, hOg, hNg, hBg, hSg⟩
                · go_simp
                  change K _ (wr.drew.alloc (.cells #[.int .i64 z] 3))
                  refine hK.out _ _ e2e (fun hH5 => ?_)
                  clear hK K
                  try simp only [Act.put, List.getElem_toArray, List.getElem_cons_zero, List.getElem_cons_succ, List.setIfInBounds_toArray, List.set_cons_zero, List.set_cons_succ]
                  refine wpAnyH_ready (rs := [0]) (by kernel_rfl) (by simp) (AllReadyH.cons rfl (fun K hK => ?_) AllReadyH.nil)
                  go_simp
                  change K _ (wr.drew.alloc (.cells #[.int .i64 z] 3))
                  refine hK.out _ _ e2e (fun hH6 => ?_)
                  clear hK K
                  try simp only [Act.put, List.getElem_toArray, List.getElem_cons_zero, List.getElem_cons_succ, List.setIfInBounds_toArray, List.set_cons_zero, List.set_cons_succ]
                  refine wpAnyH_ready (rs := [6]) (by kernel_rfl) (by simp) (AllReadyH.cons rfl (fun K hK => ?_) AllReadyH.nil)
                  rw [if_pos (by rfl)]
                  refine wp_append1g (.tmp 54) (.tmp 59) _ rfl 3 i0 _ Tryd.underlying44 hi0 hz0 hz1 (by omega) rfl wi.heap.size (.slice Av (q + 1) cv) _ (.int .i64 z) rfl rfl rfl HOWd.out (by rw [hlen]; have := HO.out.few; omega) (by have := HSy.out; show wi.heap.size ≤ wr.heap.size; omega) ?_
                  intro v2 w5 hown2 hgr2 hloc2
                  obtain ⟨Av2, nv2, cv2, ev2⟩ : ∃ A n c, v2 = .slice A n c := by obtain ⟨A', c', e, _⟩ := own_shape hown2; exact ⟨A', _, c', e⟩
                  subst ev2
                  have hb5 : w5.heap[wi.heap.size + 1]? = wr.heap[wi.heap.size + 1]? := hgr2.block (wi.heap.size + 1) (show wi.heap.size + 1 < wr.heap.size by have := HSy.out; omega) (fun e => HNE2.out e.symm)
                  have hc5 : w5.heap[gC]? = wr.heap[gC]? := hgr2.block gC (show gC < wr.heap.size by have := HSy.out; have := HCi.out; omega) (fun e => by have := own_lt HOW.out e.symm; have := HCi.out; omega)
                  have b0f : w5.cell? ⟨wi.heap.size + 1, 0, none⟩ = some (.slice Av (q + 1) cv) := (World.cell?_of_block (a := ⟨wi.heap.size + 1, 0, none⟩) hb5).trans b0
                  have b1f : w5.frozen? ⟨wi.heap.size + 1, 0, none⟩ = false := (World.frozen?_of_block (a := ⟨wi.heap.size + 1, 0, none⟩) hb5).trans b1
                  have e2f : w5.cell? ⟨gC, y, none⟩ = some (.int .i64 z) := (World.cell?_of_block (a := ⟨gC, y, none⟩) hc5).trans e2
                  have hBf := Lib.hid (HBy.out.grown (row := (Value.slice Av (q + 1) cv).ownBlock) (w' := w5) ⟨hgr2.os, hgr2.tape, hgr2.output, hgr2.size, hgr2.block⟩ (by have := HSy.out; omega) (fun k hk => own_lt HOW.out hk))
                  have hXf := Lib.hid (show Blk w5 (wi.heap.size + 1) 44 [.slice Av (q + 1) cv] from hb5.trans HBX.out)
                  have hn2 : (Value.slice Av2 nv2 cv2).ownBlock ≠ some (wi.heap.size + 1) := hloc2.elim (fun h => by rw [h]; exact HNE2.out) (fun ⟨g, h, hg⟩ => by rw [h]; intro e; injection e with e; have hg : wr.heap.size ≤ g := hg; have := HSy.out; omega)
                  have hsz5 : Hid (wi.heap.size + 2 ≤ w5.heap.size) := Lib.hid (Nat.le_trans HSy.out hgr2.size)
                  try simp only [Act.put, List.getElem_toArray, List.getElem_cons_zero, List.getElem_cons_succ, List.setIfInBounds_toArray, List.set_cons_zero, List.set_cons_succ]
                  refine hK.out _ _ e2f (fun hH7 => ?_)
                  clear hK K
                  try simp only [Act.put, List.getElem_toArray, List.getElem_cons_zero, List.getElem_cons_succ, List.setIfInBounds_toArray, List.set_cons_zero, List.set_cons_succ]
                  refine wpAnyH_ready (rs := [7]) (by kernel_rfl) (by simp) (AllReadyH.cons rfl (fun K hK => ?_) AllReadyH.nil)
                  go_simp
                  change K _ (w5.setCell ⟨wi.heap.size + 1, 0, none⟩ (.slice Av2 nv2 cv2))
                  have hXg := Lib.hid (hXf.out.set_ 0 (.slice Av2 nv2 cv2))
                  have hOg := Lib.hid (hown2.kept (row := some (wi.heap.size + 1)) (w' := w5.setCell ⟨wi.heap.size + 1, 0, none⟩ (.slice Av2 nv2 cv2)) ⟨rfl, rfl, rfl, by simp [World.setCell], fun k _ hk => Below.heap_setCell _ _ _ _ (fun e => hk (by simp [e]))⟩ (.inr hn2))
                  have hBg := Lib.hid (hBf.out.setCell (p := ⟨wi.heap.size + 1, 0, none⟩) (by show wi.heap.size ≤ wi.heap.size + 1; omega) (.slice Av2 nv2 cv2))
                  have e2g : (w5.setCell ⟨wi.heap.size + 1, 0, none⟩ (.slice Av2 nv2 cv2)).cell? ⟨gC, y, none⟩ = some (.int .i64 z) := (World.cell?_setCell_far w5 ⟨wi.heap.size + 1, 0, none⟩ ⟨gC, y, none⟩ (.slice Av2 nv2 cv2) (by show wi.heap.size + 1 ≠ gC; have := HCi.out; omega)).trans e2f
                  have hNg := Lib.hid hn2
                  have hSg : Hid (wi.heap.size + 2 ≤ (w5.setCell ⟨wi.heap.size + 1, 0, none⟩ (.slice Av2 nv2 cv2)).heap.size) := Lib.hid (by have := hsz5.out; simp only [World.setCell, Array.size_modify]; exact this)
                  rw [← List.map_singleton, ← List.map_append, ← HTK.out] at hOg
                  refine hK.out _ _ e2g (fun hH8 => ?_)
                  clear hK K
                  try simp only [Act.put, List.getElem_toArray, List.getElem_cons_zero, List.getElem_cons_succ, List.setIfInBounds_toArray, List.set_cons_zero, List.set_cons_succ]
                  refine wpAnyH_done (by kernel_rfl) ?_ _
                  generalize w5.setCell ⟨wi.heap.size + 1, 0, none⟩ (.slice Av2 nv2 cv2) = w6 at *
                  clear b0d e2d b0e b0e2 e2e b0f b1f e2f e2g hb5 hc5 hn2 hown2 hgr2 hloc2 hBf hXf hsz5 HOWd
                  go_wp2_with fail
                  go_roundg f2
                  case measure => omega
                  case rel => exact ⟨q + 1, .slice Av2 nv2 cv2, by omega, by simp, hXg, hOg, hNg, hBg, hSg⟩
              · obtain rfl : q = M.s := by omega
                have HKL : Hid ((M.key (M.classR r) i).take (M.s + 1) = M.key (M.classR r) i) := Lib.hid (List.take_of_length_le (by rw [key_len HO.out _ hin]; exact Nat.le_refl _))
                rw [HKL.out] at HOW
                have HKI : Hid (Ints wr wr.heap.size Av (M.s + 1) (M.key (M.classR r) i)) := Lib.hid (Ints.of_own HOW.out)
                have HOA := Lib.hid (own_at HOW.out)
                have HKlt : Hid (∀ k, (Value.slice A7 (M.keysI (M.classR r) i).length c7).ownBlock = some k → wo.heap.size + 1 ≤ k ∧ k < wi.heap.size) := Lib.hid (fun k hk => by obtain ⟨KC, _, h2, _⟩ := HKR.out; exact h2.lt k hk)
                have HKRr := Lib.hid (HKR.out.below HBy.out (Nat.le_refl _))
                have HKNr := Lib.hid (HKN.out.below HBy.out HKN.out.lt)
                have HBr := Lib.hid (HBx.out.trans (HBy.out.mono HBx.out.size))
                have hks := keysI_small M (M.classR r) i
                have HIX := Lib.hid (index_any A7 Av (M.keysI (M.classR r) i).length (M.s + 1) c7 cv wr.heap.size (wi.heap.size + 1) _ _ wr HKRr.out.rows HKI.out b0 (by omega) (fun j hj => by rw [keysI_row HO.out _ (by omega) hj]; have := HO.out.few; omega))
                have HNS := Lib.hid (HNE.out.step hin)
                have HKS : Hid (M.keysI (M.classR r) (i + 1) = if M.key (M.classR r) i ∈ M.keysI (M.classR r) i then M.keysI (M.classR r) i else M.keysI (M.classR r) i ++ [M.key (M.classR r) i]) := Lib.hid rfl
                have HAT : Hid (M.atI (M.classR r) i = (M.keysI (M.classR r) i).idxOf (M.key (M.classR r) i)) := Lib.hid rfl
                have HKle := Lib.hid (key_len HO.out (M.classR r) hin)
                have HDz : Hid (wo.heap.size + 1 ≤ wi.heap.size) := HZx
                clear HKR HKN HNE HI HKI hlen
                generalize hkey : M.key (M.classR r) i = K at *
                generalize hkss : M.keysI (M.classR r) i = KS at *
                generalize hat : M.atI (M.classR r) i = at_ at *
                clear hkey hkss hat
                have s1 : ∀ q', (wr.drewN q').cell? ⟨wo.heap.size, i, none⟩ = some (.int .i64 (gi E i)) := fun q' => row_cellL (HKNr.out.drewN q') (by have := HNS.out.1; rw [List.length_set] at this; omega)
                have s2 : ∀ q', (wr.drewN q').frozen? ⟨wo.heap.size, i, none⟩ = false := fun q' => (HKNr.out.drewN q').frozen _
                by_cases hmem : K ∈ KS
                · have hil := List.idxOf_lt_length_of_mem hmem
                  have hix : idxK KS K = (at_ : Int) := by unfold idxK; rw [if_pos hmem, HAT.out]
                  rw [hix] at HIX
                  rw [if_pos hmem] at HKS
                  have p6 : ¬ (at_ : Int) < 0 := by omega
                  clear hmem hix HAT hil
                  go_wp2_with fail
                  refine HIX.out.mono ?_
                  rintro e w' ⟨rfl, q', rfl⟩
                  go_wp2_with fail
                  go_roundg f
                  case measure => omega
                  case rel => exact ⟨i + 1, E.set i (at_ : Int), by omega, by simp, by rw [HKS.out]; exact Lib.hid ((HKRr.out.below (below_drewN (Below.refl wr.heap.size wr) q') (Nat.le_refl _)).set_ (by omega) _), Lib.hid (blk_setL (HKNr.out.drewN q')), HNS, Lib.hid ((below_drewN HBr.out q').setCell (p := ⟨wo.heap.size, i, none⟩) (Nat.le_refl _) _), Lib.hid (by have h1 := HSy.out; have h2 := HDz.out; show wo.heap.size + 1 ≤ ((wr.drewN q').setCell ⟨wo.heap.size, i, none⟩ (.int .i64 (at_ : Int))).heap.size; simp only [World.setCell, Array.size_modify]; show wo.heap.size + 1 ≤ wr.heap.size; omega)⟩
                · have hix : idxK KS K = -1 := by unfold idxK; rw [if_neg hmem]
                  rw [hix] at HIX
                  rw [if_neg hmem] at HKS
                  have HAT2 : Hid (at_ = KS.length) := Lib.hid (by rw [HAT.out, List.idxOf_eq_length hmem])
                  have p6 : (-1 : Int) < 0 := by decide
                  obtain ⟨gk, hAv, hgk1, hgk2, hgk3⟩ := HOA.out
                  subst hAv
                  obtain ⟨KC, hk1, hk2, hk3⟩ := HKRr.out
                  have b0' : ∀ q', (wr.drewN q').cell? ⟨wi.heap.size + 1, 0, none⟩ = some (.slice (some ⟨gk, 0, none⟩) (M.s + 1) cv) := fun q' => b0
                  have HK1 := Lib.hid hk1; have HK2 := Lib.hid hk2; have HK3 := Lib.hid hk3; have HGK := Lib.hid hgk3
                  clear hmem hix HAT hk1 hk2 hk3 hgk3 HOA b0 b1
                  go_wp2_with fail
                  refine HIX.out.mono ?_
                  rintro e w' ⟨rfl, q', rfl⟩
                  have c7' := b0' q'
                  clear b0'
                  go_wp2_with (at_builtin; refine wpList_append1g rfl (.tmp 69) (.tmp 71) _ rfl 44 i1 _ Tryd.underlying22 hi1 hy0 hy1 (by omega) rfl (wo.heap.size + 1) (.slice A7 KS.length c7) KC (.slice (some ⟨gk, 0, none⟩) (M.s + 1) cv) rfl rfl rfl HK2.out (by have := HK1.out; omega) (by have h1 := HSy.out; have h2 := HDz.out; show wo.heap.size + 1 ≤ wr.heap.size; omega) ?_; intro v3 w6 hown3 hgr3 hloc3; have hD6 : w6.heap[wo.heap.size]? = wr.heap[wo.heap.size]? := hgr3.block wo.heap.size (show wo.heap.size < wr.heap.size by have h1 := HSy.out; have h2 := HDz.out; omega) (fun e => by have := HKlt.out _ e.symm; omega); have s3 : w6.cell? ⟨wo.heap.size, i, none⟩ = some (.int .i64 (gi E i)) := (World.cell?_of_block (a := ⟨wo.heap.size, i, none⟩) hD6).trans (s1 0); have s4 : w6.frozen? ⟨wo.heap.size, i, none⟩ = false := (World.frozen?_of_block (a := ⟨wo.heap.size, i, none⟩) hD6).trans (s2 0))
                  have hr6 : KRel w6 (wo.heap.size + 1) v3 (KS ++ [K]) := KRel.snoc (w := wr.drewN q') (x := wi.heap.size) (gk := gk) (m := M.s + 1) (cap := cv) HK1.out HK2.out HK3.out (fun k hk => (HKlt.out k hk).2) HDz.out hgk1 hgk2 HKle.out HGK.out hown3 hgr3 hloc3
                  have HR6 := Lib.hid (hr6.set_ (g := wo.heap.size) (i := i) (by omega) (.int .i64 (KS.length : Int)))
                  have HN6 := Lib.hid (blk_setL (k := i) (v := (KS.length : Int)) (show Blk w6 wo.heap.size 3 (E.map (Value.int .i64)) from hD6.trans HKNr.out))
                  have HB6 := Lib.hid (((below_drewN HBr.out q').grown hgr3 (by have h1 := HSy.out; have h2 := HDz.out; show wo.heap.size ≤ wr.heap.size; omega) (fun k hk => by have := HKlt.out k hk; omega)).setCell (p := ⟨wo.heap.size, i, none⟩) (Nat.le_refl _) (.int .i64 (KS.length : Int)))
                  have HS6 : Hid (wo.heap.size + 1 ≤ (w6.setCell ⟨wo.heap.size, i, none⟩ (.int .i64 (KS.length : Int))).heap.size) := Lib.hid (by
                    have h1 := HSy.out; have h2 := HDz.out; have h3 := hgr3.size
                    have h3 : wr.heap.size ≤ w6.heap.size := h3
                    simp only [World.setCell, Array.size_modify]; omega)
                  rw [HAT2.out] at HNS
                  go_wp2_with fail
                  go_roundg f
                  case measure => omega
                  case rel => exact ⟨i + 1, E.set i (KS.length : Int), by omega, by simp, by rw [HKS.out]; exact HR6, HN6, HNS, HB6, HS6⟩
          · obtain rfl : m = i := by omega
            have HE : Hid (E = M.classR (r + 1)) := Lib.hid (by have h := HNE.out; rw [← HN.out] at h; exact h.fin)
            rw [HE.out] at HKN
            have HMR : Hid ((M.keysI (M.classR r) m).length = M.many r) := Lib.hid (by rw [Mc.keysI_len]; unfold Mc.many; rw [HN.out])
            have hmle : M.many r ≤ m := by rw [← HMR.out]; exact keysI_small M (M.classR r) m
            have HBn := Lib.hid (HB.out.trans (HBx.out.mono HD1.out))
            have HFIN := Lib.hid (HB0.out.trans (HBn.out.mono HBT.out))
            have p6 : ¬ (m : Int) < (m : Int) := by omega
            clear HNE HE HKR HBx HZx
            rw [HMR.out]
            by_cases hq : M.many r = many
            · have HRQ : Hid (∃ r', r = r' + 1 ∧ M.many r' = M.many (r' + 1)) := Lib.hid (by
                have h := HMY.out
                cases r with
                | zero =>
                  rw [if_pos rfl] at h
                  have : 0 < M.many 0 := cnt_pos _ _ HO.out.pos
                  omega
                | succ r' =>
                  rw [if_neg (by omega)] at h
                  exact ⟨r', rfl, by rw [hq, h]; rfl⟩)
              have q1 : ((M.many r : Int) == (many : Int)) = true := by simp; omega
              generalize M.many r = y at q1 ⊢
              clear hq HMY HMR hmle
              go_wp2_with fail
              go_ret
              obtain ⟨r', hr', hmr⟩ := HRQ.out
              subst hr'
              exact ⟨⟨wo.heap.size, rfl, r', HKN.out, hmr⟩, HFIN.out⟩
            · have hgt : many < M.many r := by
                have h := HMY.out
                cases r with
                | zero =>
                  rw [if_pos rfl] at h
                  have : 0 < M.many 0 := cnt_pos _ _ HO.out.pos
                  omega
                | succ r' =>
                  rw [if_neg (by omega)] at h
                  have := Mc.many_mono HO.out r'
                  have h : many = M.many r' := h
                  omega
              have q1 : ((M.many r : Int) == (many : Int)) = false := by simp; omega
              have HMY2 : Hid (M.many r = if r + 1 = 0 then 0 else M.many (r + 1 - 1)) := Lib.hid (by rw [if_neg (by omega)]; rfl)
              have HGN : Hid (w1.heap.size ≤ wo.heap.size) := HD1
              generalize hy : M.many r = y at *
              clear hq HMY HMR hy
              go_wp2_with fail
              go_roundg (m + 1 - y)
              case measure => omega
              case rel => exact ⟨r + 1, wo.heap.size, y, by omega, rfl, rfl, HMY2, HKN, HGN, HBn⟩
end Go.Proofs.YtfglajddibjnjaaDoor
