/- The document's ways of every pattern, rising, Places. No condition. -/
import Derived.Test.YtchhbnnpannnhaaDoorNfZ
import Derived.Test.YtchhbnnpannnhaaDoorNfZs
namespace Go.Proofs.YtchhbnnpannnhaaDoor
open Go.RowKit IntWalk Go.Maps
set_option linter.unusedSimpArgs false
set_option linter.unusedVariables false
attribute [local go_sem] byte_at str_app

theorem ways_any : ∀ t : Rt, WaysC t
  | .emp => ways_emp
  | .sgn d => ways_sgn d
  | .alt l r => ways_alt l r (ways_any l) (ways_any r)
  | .seq l r => ways_seq l r (ways_any l) (ways_any r)
  | .str l => ways_str l (ways_any l)
theorem srt_stepP (T : List Nat) (j : Nat) : srt (j + 1) T = if j ∈ T then srt j T ++ [j] else srt j T := by
  unfold srt
  rw [List.range_succ, List.filter_append]
  by_cases h : j ∈ T
  · simp [h]
  · simp [h]
theorem srt_lenP (n : Nat) (L : List Nat) : (srt n L).length ≤ n := by unfold srt; exact Nat.le_trans (List.length_filter_le _ _) (by simp)
theorem mem_zsP {L : List Nat} {x : Nat} : ((x : Int) ∈ zs L) ↔ x ∈ L := by
  constructor
  · intro h
    obtain ⟨j, hj, e⟩ := List.mem_map.1 h
    obtain rfl : j = x := by omega
    exact hj
  · intro h; exact List.mem_map.2 ⟨x, h, rfl⟩
set_option maxRecDepth 100000 in
set_option maxHeartbeats 2000000 in
theorem rising_any (A : Option Addr) (n c N : Nat) (L : List Nat) (w : World) (h : IW w (.slice A n c) L) (hn : L.length ≤ 100000) (hN : N ≤ 1000) :
    Calls Tryd.prog 14 #[.slice A n c, .int .i64 (N : Int)] w fun e w' => (∃ v', e = .returned v' ∧ IW w' v' (srt N L)) ∧ Below w.heap.size w w' := by
  obtain ⟨i0, hi0, hz0, hz1, hz2⟩ := info_parts info_intN
  obtain ⟨h, rfl⟩ := h.ints
  have H1 := Lib.hid h
  clear h
  go_enter Tryd.func14, Tryd.ntmps14
  go_wp2_with fail
  go_loopg [5, 6] N (fun f ov iv wr => ∃ j : Nat, j + f = N ∧ iv = .int .i64 (j : Int) ∧ Hid (wr.ownsRow w.heap.size 3 1 ov (srt j L).length ((srt j L).map eI)) ∧ Hid (Below w.heap.size w wr))
  case atStart => exact ⟨0, by omega, rfl, Lib.hid (World.ownsRow_nil _ _ _ _), Lib.hid (Below.refl _ _)⟩
  case round =>
    obtain ⟨j, hjf, rfl, HO, HBW⟩ := hrel
    by_cases hj : j < N
    · obtain ⟨f, rfl⟩ : ∃ f, gk = f + 1 := ⟨gk - 1, by omega⟩
      have hHA := has3_any A L.length c _ (zs L) (j : Int) _ (H1.out.below HBW.out) hn
      have hdj : decide ((j : Int) ∈ zs L) = decide (j ∈ L) := by rw [Bool.eq_iff_iff, decide_eq_true_eq, decide_eq_true_eq, mem_zsP]
      rw [hdj] at hHA
      have HHJ := Lib.hid hHA
      have hsj := srt_stepP L j
      have HSL := Lib.hid (srt_lenP j L)
      have z4 : (j : Int) < (N : Int) := by omega
      have z5 : IntKind.i64.wrap ((j : Int) + 1) = (j : Int) + 1 := IntWalk.i64_in _ (by omega)
      clear hHA hdj
      by_cases hjT : j ∈ L
      · rw [decide_eq_true hjT] at HHJ
        rw [if_pos hjT] at hsj
        have HSJ := Lib.hid hsj
        clear hsj
        go_wp2_with (first
          | (go_at_call 30; refine HHJ.out.mono ?_; rintro e w' ⟨rfl, rfl⟩)
          | (at_builtin; refine wpList_append1 rfl (.tmp 15) (.tmp 17) _ rfl 3 i0 _ Tryd.underlying27 hi0 hz0 hz1 (by omega) rfl w.heap.size _ ((srt j L).map eI) (eI j) rfl rfl rfl (by have h := HO.out; rwa [← List.length_map (f := eI)] at h) (by have := HSL.out; rw [List.length_map]; omega) HBW.out.size ?_; intro v' w' hown' hbl'; have HN2 := Lib.hid hown'; have HB5 := Lib.hid (HBW.out.trans hbl'); clear hown' hbl'; go_frame))
        go_roundg f
        case measure => omega
        case rel => exact ⟨j + 1, by omega, by simp, by rw [HSJ.out, List.map_append]; exact Lib.hid (by have h := HN2.out; simpa using h), HB5⟩
      · rw [decide_eq_false hjT] at HHJ
        rw [if_neg hjT] at hsj
        have HSJ := Lib.hid hsj
        clear hsj
        go_wp2_with (go_at_call 30; refine HHJ.out.mono ?_; rintro e w' ⟨rfl, rfl⟩)
        go_roundg f
        case measure => omega
        case rel => exact ⟨j + 1, by omega, by simp, by rw [HSJ.out]; exact HO, HBW⟩
    · obtain rfl : j = N := by omega
      go_wp2_with fail
      go_ret
      exact ⟨⟨_, rfl, IW.own HO.out⟩, HBW.out⟩
/-- Rows of places: a row of the call's own, its elements rows that are read. -/
def NR (w : World) (D : Nat) (v : Value) (L : List (List Nat)) : Prop := ∃ KC : List Value, KC.length = L.length ∧ w.ownsRow D 27 1 v KC.length KC ∧ ∀ (j : Nat) (r : List Nat), L[j]? = some r → ∃ u, KC[j]? = some u ∧ IW w u r
section
variable {W W' : World} {D : Nat} {v : Value} {L : List (List Nat)}
theorem NR.nil (W : World) (D : Nat) : NR W D (.slice none 0 0) [] := ⟨[], rfl, World.ownsRow_nil _ _ _ _, fun j r h => by simp at h⟩
theorem NR.below (h : NR W D v L) {B : Nat} (hb : Below B W W') (hB : W.heap.size ≤ B) : NR W' D v L := by
  obtain ⟨KC, h1, h2, h3⟩ := h
  refine ⟨KC, h1, own_below h2 hb hB, fun j r hr => ?_⟩
  obtain ⟨u, e1, e2⟩ := h3 j r hr
  exact ⟨u, e1, e2.keep (KeepW.of hb hB)⟩
theorem NR.base (h : NR W D v L) {D' : Nat} (hD : D' ≤ D) : NR W D' v L := by
  obtain ⟨KC, h1, h2, h3⟩ := h
  exact ⟨KC, h1, own_base h2 hD, h3⟩
theorem NR.shape (h : NR W D v L) : ∃ A c, v = .slice A L.length c := by
  obtain ⟨KC, h1, h2, _⟩ := h
  obtain ⟨A, c, e, _⟩ := own_shape h2
  exact ⟨A, c, by rw [e, h1]⟩
theorem NR.rows {n c : Nat} {A : Option Addr} (h : NR W D (.slice A n c) L) : Rws W W.heap.size A n (L.map zs) := by
  obtain ⟨KC, h1, h2, h3⟩ := h
  obtain ⟨A', c', e, hc⟩ := own_cs h2
  injection e with e1 e2 e3
  subst e1 e2 e3
  refine ⟨by rw [List.length_map, h1], fun hp => ?_⟩
  obtain ⟨b, off, rfl, hcc⟩ := hc.2 hp
  have hb : b < W.heap.size := by
    obtain ⟨u, hu⟩ : ∃ u, KC[0]? = some u := ⟨_, List.getElem?_eq_getElem hp⟩
    have := World.block_lt_of_cell? W _ (hcc 0 u hu)
    exact this
  refine ⟨b, off, rfl, hb, fun j hj => ?_⟩
  obtain ⟨r, hr⟩ : ∃ r, L[j]? = some r := ⟨_, List.getElem?_eq_getElem (by omega)⟩
  obtain ⟨u, e1, e2⟩ := h3 j r hr
  obtain ⟨a, c, rfl⟩ := e2.shape
  refine ⟨a, _, c, hcc j _ e1, ?_⟩
  have hro : ro (L.map zs) j = zs r := by unfold ro; rw [List.getElem?_map, hr]; rfl
  rw [hro]
  exact e2.ints.1
theorem NR.snoc {KC : List Value} {u v' : Value} {r : List Nat} {W8 : World} (h1 : KC.length = L.length) (h2 : W.ownsRow D 27 1 v KC.length KC) (h3 : ∀ (j : Nat) (r : List Nat), L[j]? = some r → ∃ u, KC[j]? = some u ∧ IW W u r) (hu : IW W u r)
    (hgr : W.grownBy W8 v.ownBlock) (hown : W8.ownsRow D 27 1 v' (KC ++ [u]).length (KC ++ [u])) : NR W8 D v' (L ++ [r]) := by
  have hk := KeepI.grown hgr (own_tyI h2)
  refine ⟨_, by simp [h1], hown, fun j r' hr => ?_⟩
  rcases Nat.lt_or_ge j L.length with hl | hl
  · rw [List.getElem?_append_left hl] at hr
    obtain ⟨x, e1, e2⟩ := h3 j r' hr
    exact ⟨x, by rw [List.getElem?_append_left (by omega)]; exact e1, e2.keepI hk⟩
  · rw [List.getElem?_append_right hl] at hr
    obtain rfl : j = L.length := by
      rcases Nat.lt_or_ge 0 (j - L.length) with h | h
      · rw [List.getElem?_eq_none (by simp; omega)] at hr; cases hr
      · omega
    rw [Nat.sub_self] at hr
    have hr : r = r' := by simpa using hr
    subst hr
    exact ⟨u, by rw [← h1]; simp, hu.keepI hk⟩
end
/-- The places that may follow one. -/
def nxA (P : List (Nat × Nat)) (i : Nat) : List Nat := (P.filter fun p => decide (p.1 = i)).map Prod.snd
theorem nxA_step {P : List (Nat × Nat)} {k : Nat} {p : Nat × Nat} (i : Nat) (h : P[k]? = some p) : nxA (P.take (k + 1)) i = if p.1 = i then nxA (P.take k) i ++ [p.2] else nxA (P.take k) i := by
  unfold nxA
  rw [List.take_add_one, h, List.filter_append, List.map_append]
  by_cases e : p.1 = i
  · simp [e]
  · simp [e]
theorem nxA_len (P : List (Nat × Nat)) (i k : Nat) : (nxA (P.take k) i).length ≤ P.length := by
  unfold nxA
  rw [List.length_map]
  exact Nat.le_trans (List.length_filter_le _ _) (Nat.le_trans (List.length_take_le' _ _) (Nat.le_refl _))
theorem res_3P {fn : Func} {t u v : Tmp} (h : fn.results = #[.tmp t, .tmp u, .tmp v]) (tmps : Array Value) (P : Program) (w : World) :
    (results fn tmps).run P w = .ok (.tuple #[tmps.getD t undef, tmps.getD u undef, tmps.getD v undef]) w := by
  simp [results, h]
def nxR (P : List (Nat × Nat)) (N : Nat) : List (List Nat) := (List.range N).map fun i => srt N (nxA P i)
set_option maxRecDepth 100000 in
set_option maxHeartbeats 8000000 in
theorem places_any (rt : Rt) (xs : List N4) (v : Value) (l : List UInt8) (b : Bool) (tp : Nat) (w : World) (hv : NV w 0 v xs) (hr : RepR xs rt tp) (hn : nR rt ≤ 12) (hd : ndR rt ≤ 60) :
    Calls Tryd.prog 5 #[PV v l b tp] w fun e w' => (∃ f s q, e = .returned (.tuple #[f, s, q]) ∧ IW w' f (srt (nR rt) (fsR rt 0)) ∧ IW w' s (srt (nR rt) (lsR rt 0)) ∧ NR w' 0 q (nxR (prR rt 0) (nR rt))) ∧ Below w.heap.size w w' := by
  obtain ⟨i0, hi0, hz0, hz1, hz2⟩ := info_parts info_intN
  obtain ⟨i1, hi1, hy0, hy1, hy2⟩ := info_parts info_rowsW
  have HST := Lib.hid ((Below.refl w.heap.size w).alloc (Nat.le_refl _) (pObj v l b tp))
  have HC : Hid (Calls Tryd.prog 13 #[PV v l b tp, .int .i64 (tp : Int), .int .i64 0] (w.alloc (pObj v l b tp)) fun e w' => (∃ f s q, e = .returned (wAgg (nuR rt) f s q (nR rt)) ∧ IW w' f (fsR rt 0) ∧ IW w' s (lsR rt 0) ∧ PW w' 0 q (prR rt 0)) ∧ Below (w.alloc (pObj v l b tp)).heap.size (w.alloc (pObj v l b tp)) w') := Lib.hid (ways_any rt xs v l b tp tp 0 _ (hv.keep HST.out (Nat.le_refl _)) hr hn hd (by omega))
  have h1 := heap_alloc_new w (pObj v l b tp)
  have HLN : Hid ((fsR rt 0).length ≤ 12 ∧ (lsR rt 0).length ≤ 12 ∧ (prR rt 0).length ≤ 20000) := Lib.hid ⟨Nat.le_trans (fs_lenR _ _) hn, Nat.le_trans (ls_lenR _ _) hn, by
    have h1 := pr_lenR rt 0 12 hn
    have h2 : ndR rt * (12 * 12) ≤ 60 * (12 * 12) := Nat.mul_le_mul_right _ hd
    omega⟩
  obtain ⟨a0, a1, a2, a3, _, _, _, _⟩ := four_at h1
  clear hv hr h1 hd
  generalize nuR rt = nu at *
  generalize nR rt = N at *
  generalize fsR rt 0 = FSs at *
  generalize lsR rt 0 = LS at *
  generalize prR rt 0 = PR at *
  go_enter Tryd.func5, Tryd.ntmps5
  go_wp2_with fail
  refine HC.out.mono ?_
  rintro e w1 ⟨⟨f, s, q, rfl, hf, hs, hq⟩, hb1⟩
  have HB1 := Lib.hid (HST.out.trans (hb1.mono HST.out.size))
  obtain ⟨Af, nf, cf, rfl⟩ : ∃ A n c, f = Value.slice A n c := by obtain ⟨A, c, e⟩ := hf.shape; exact ⟨A, _, c, e⟩
  obtain ⟨As, ns, cs, rfl⟩ : ∃ A n c, s = Value.slice A n c := by obtain ⟨A, c, e⟩ := hs.shape; exact ⟨A, _, c, e⟩
  obtain ⟨Aq, cq, rfl⟩ := hq.shape
  have hbn := (Below.refl w1.heap.size w1).alloc (Nat.le_refl _) (.cells #[.bool nu, .slice Af nf cf, .slice As ns cs, .slice Aq PR.length cq, .int .i64 (N : Int)] 44)
  have hk := KeepW.of hbn (Nat.le_refl _)
  have HW2 := Lib.hid (Wc.new (n := nu) (f := .slice Af nf cf) (s := .slice As ns cs) (q := .slice Aq PR.length cq) (k := N) w1)
  have HB2 := Lib.hid (HB1.out.trans (hbn.mono HB1.out.size))
  have HF2 := Lib.hid (hf.keep hk); have HS2 := Lib.hid (hs.keep hk); have HQ2 := Lib.hid (hq.keep hk)
  clear hf hs hq hb1 hbn hk HB1 HST HC a0 a1 a2 a3
  go_upto_region 2 with fail
  generalize w1.alloc (.cells #[.bool nu, .slice Af nf cf, .slice As ns cs, .slice Aq PR.length cq, .int .i64 (N : Int)] 44) = w2 at *
  generalize w1.heap.size = gw at *
  have hgw : gw < w2.heap.size := HW2.out.lt
  go_wp2_with fail
  go_loopg [6, 7] N (fun f nv iv wr => ∃ i : Nat, i + f = N ∧ iv = .int .i64 (i : Int) ∧ Hid (NR wr w2.heap.size nv ((List.range i).map fun i => srt N (nxA PR i))) ∧ Hid (Below w2.heap.size w2 wr))
  case atStart => exact ⟨0, by omega, rfl, Lib.hid (NR.nil _ _), Lib.hid (Below.refl _ _)⟩
  case round =>
    obtain ⟨i, hif, rfl, HNR, HBI⟩ := hrel
    obtain ⟨⟨_, _, _, c3, c4⟩, _⟩ := (HW2.out.below HBI.out hgw).all
    by_cases hi : i < N
    · obtain ⟨f, rfl⟩ : ∃ f, gk = f + 1 := ⟨gk - 1, by omega⟩
      have z1 : (i : Int) < (N : Int) := by omega
      have z3 : IntKind.i64.wrap ((i : Int) + 1) = (i : Int) + 1 := IntWalk.i64_in _ (by omega)
      generalize wr = w3 at *
      go_wp2_with fail
      clear c3 c4
      go_loopg [8, 9] PR.length (fun f lv kv wr => ∃ k : Nat, k + f = PR.length ∧ kv = .int .i64 (k : Int) ∧ Hid (wr.ownsRow w3.heap.size 3 1 lv (nxA (PR.take k) i).length ((nxA (PR.take k) i).map eI)) ∧ Hid (Below w3.heap.size w3 wr))
      case atStart => exact ⟨0, by omega, rfl, Lib.hid (World.ownsRow_nil _ _ _ _), Lib.hid (Below.refl _ _)⟩
      case round =>
        obtain ⟨k, hkf, rfl, HO, HBK⟩ := hrel
        have HB23 := Lib.hid (HBI.out.trans (HBK.out.mono HBI.out.size))
        obtain ⟨⟨_, _, _, c3, c4⟩, _⟩ := (HW2.out.below HB23.out hgw).all
        by_cases hk : k < PR.length
        · obtain ⟨f2, rfl⟩ : ∃ f, gk = f + 1 := ⟨gk - 1, by omega⟩
          obtain ⟨p, hp⟩ : ∃ p, PR[k]? = some p := ⟨_, List.getElem?_eq_getElem hk⟩
          obtain ⟨gq, cq', bq, hvq, e0, e1, e2⟩ := (HQ2.out.below HB23.out (Nat.le_refl _)).at_ hp
          injection hvq with hvq _ hvc
          subst hvq; subst hvc
          have HST := Lib.hid (nxA_step i hp)
          have HLX := Lib.hid (nxA_len PR i k)
          have z5 : (k : Int) < (PR.length : Int) := by omega
          have z6 : IntKind.i64.wrap ((k : Int) + 1) = (k : Int) + 1 := IntWalk.i64_in _ (by have := HLN.out; omega)
          have hln := HLN.out.2.2
          generalize nxA (PR.take k) i = T at *
          obtain ⟨px, py⟩ := p
          simp only [] at e1 e2 HST
          clear hp
          by_cases he : px = i
          · rw [if_pos he] at HST
            subst he
            go_wp2_with (at_builtin; refine wpList_append1 rfl (.tmp 36) (.tmp 44) _ rfl 3 i0 _ Tryd.underlying27 hi0 hz0 hz1 (by omega) rfl w3.heap.size _ (T.map eI) (eI py) rfl rfl rfl (by have h := HO.out; rwa [← List.length_map (f := eI)] at h) (by have := HLX.out; rw [List.length_map]; omega) HBK.out.size ?_; intro v' w' hown' hbl'; have HN2 := Lib.hid hown'; have HB5 := Lib.hid (HBK.out.trans hbl'); clear hown' hbl'; go_frame)
            go_roundg f2
            case measure => omega
            case rel => exact ⟨k + 1, by omega, by simp, by rw [HST.out, List.map_append]; exact Lib.hid (by have h := HN2.out; simpa using h), HB5⟩
          · rw [if_neg he] at HST
            have hb1 : ((px : Int) == (i : Int)) = false := by simp; omega
            have hb2 : (px == i) = false := by simp; omega
            have hb3 : ¬ (px : Int) = (i : Int) := by omega
            go_wp2_with fail
            go_roundg f2
            case measure => omega
            case rel => exact ⟨k + 1, by omega, by simp, by rw [HST.out]; exact HO, HBK⟩
        · obtain rfl : k = PR.length := by omega
          rw [List.take_length] at HO
          have HT := Lib.hid (IW.own HO.out)
          obtain ⟨Al, nl, cl, hvl⟩ : ∃ A n c, _ = Value.slice A n c := by obtain ⟨A, c, e⟩ := HT.out.shape; exact ⟨A, _, c, e⟩
          subst hvl
          have hTl : (nxA PR i).length ≤ 100000 := by have h := nxA_len PR i PR.length; rw [List.take_length] at h; have := HLN.out; omega
          have HRI := Lib.hid (rising_any Al nl cl N (nxA PR i) wr HT.out hTl (by omega))
          have HN4 := Lib.hid (HNR.out.below HBK.out (Nat.le_refl _))
          have HRS : Hid ((List.range (i + 1)).map (fun i => srt N (nxA PR i)) = (List.range i).map (fun i => srt N (nxA PR i)) ++ [srt N (nxA PR i)]) := Lib.hid (by rw [List.range_succ, List.map_append]; rfl)
          have hlr : ((List.range i).map (fun i => srt N (nxA PR i))).length ≤ 12 := by rw [List.length_map, List.length_range]; omega
          clear HO HT HNR
          generalize (List.range i).map (fun i => srt N (nxA PR i)) = RS at *
          generalize srt N (nxA PR i) = row at *
          go_wp2_with fail
          refine HRI.out.mono ?_
          rintro e w4 ⟨⟨v', rfl, hi4⟩, hb4⟩
          obtain ⟨A4, n4, c4', rfl⟩ : ∃ A n c, v' = Value.slice A n c := by obtain ⟨A, c, e⟩ := hi4.shape; exact ⟨A, _, c, e⟩
          have HB4 := Lib.hid (HB23.out.trans (hb4.mono HB23.out.size))
          obtain ⟨KC, k1, k2, k3⟩ := HN4.out.below hb4 (Nat.le_refl _)
          have HK2 := Lib.hid k2
          have HI4 := Lib.hid hi4; have HK3 := Lib.hid k3
          have hkl : KC.length ≤ 12 := by omega
          clear hb4 hi4 k2 k3 HN4 HRI c3 c4
          go_wp2_with (at_builtin; refine wpList_append1g rfl (.tmp 46) (.tmp 51) _ rfl 27 i1 _ Tryd.underlying28 hi1 hy0 hy1 (by omega) rfl w2.heap.size _ KC (.slice A4 n4 c4') rfl rfl rfl HK2.out (by omega) HB4.out.size ?_; intro v5 w5 hown5 hgr5 hl5; have hn5 := NR.snoc k1 HK2.out HK3.out HI4.out hgr5 hown5; have hb5 := HB4.out.grown hgr5 HB4.out.size (fun k hk => own_lt HK2.out hk); have HN5 := Lib.hid hn5; have HB5 := Lib.hid hb5; clear hn5 hb5 hown5 hgr5 hl5; go_frame)
          go_roundg f
          case measure => omega
          case rel => exact ⟨i + 1, by omega, by simp, by rw [HRS.out]; exact HN5, HB5⟩
    · obtain rfl : i = N := by omega
      obtain ⟨Av, nv, cv, hvl⟩ : ∃ A n c, _ = Value.slice A n c := by obtain ⟨A, c, e⟩ := HNR.out.shape; exact ⟨A, _, c, e⟩
      subst hvl
      have HBW := Lib.hid (HB2.out.trans (HBI.out.mono HB2.out.size))
      have HSS : Hid (∀ W, Below wr.heap.size wr W → (W.cell? ⟨gw, 1, none⟩ = some (.slice Af nf cf) ∧ W.cell? ⟨gw, 2, none⟩ = some (.slice As ns cs) ∧ W.cell? ⟨gw, 4, none⟩ = some (.int .i64 (i : Int))) ∧ Below wr.heap.size wr W) := Lib.hid (fun W hb => by
        obtain ⟨⟨_, q1, q2, _, q4⟩, _⟩ := ((HW2.out.below HBI.out hgw).below hb (by have := HBI.out.size; omega)).all
        exact ⟨⟨q1, q2, q4⟩, hb⟩)
      have HR1 : Hid (∀ W, Below wr.heap.size wr W → Calls Tryd.prog 14 #[.slice Af nf cf, .int .i64 (i : Int)] W fun e w' => (∃ v', e = .returned v' ∧ IW w' v' (srt i FSs)) ∧ Below W.heap.size W w') := Lib.hid (fun W hb => rising_any Af nf cf i FSs W ((HF2.out.keep (KeepW.of HBI.out (Nat.le_refl _))).keep (KeepW.of hb (Nat.le_refl _))) (by have := HLN.out; omega) (by omega))
      have HR2 : Hid (∀ W, Below wr.heap.size wr W → Calls Tryd.prog 14 #[.slice As ns cs, .int .i64 (i : Int)] W fun e w' => (∃ v', e = .returned v' ∧ IW w' v' (srt i LS)) ∧ Below W.heap.size W w') := Lib.hid (fun W hb => rising_any As ns cs i LS W ((HS2.out.keep (KeepW.of HBI.out (Nat.le_refl _))).keep (KeepW.of hb (Nat.le_refl _))) (by have := HLN.out; omega) (by omega))
      have hNR : NR wr w2.heap.size _ (nxR PR i) := HNR.out
      clear HNR
      have HNR := Lib.hid hNR
      clear hNR
      go_wp2_with fail
      clear c3 c4
      refine wp_region_held_drew (S := (fun W => (W.cell? ⟨gw, 1, none⟩ = some (.slice Af nf cf) ∧ W.cell? ⟨gw, 2, none⟩ = some (.slice As ns cs) ∧ W.cell? ⟨gw, 4, none⟩ = some (.int .i64 (i : Int))) ∧ Below wr.heap.size wr W)) (by first | assumption | kernel_rfl | rfl) (HSS.out _ (Below.refl wr.heap.size wr).drew) (fun hH => ?_)
      refine wpAnyH_take (i := 0) (v := ?_) rfl (by kernel_rfl) (by kernel_rfl) (by kernel_rfl) (fun _ _ _ h => h) (Or.inl ⟨by rfl, ?_⟩) hH ?_
      rotate_left
      · intro W hSw; (try dsimp only at hSw); go_simp; try with_reducible rfl
      try simp only [Act.put, List.getElem_toArray, List.getElem_cons_zero, List.getElem_cons_succ, List.setIfInBounds_toArray, List.set_cons_zero, List.set_cons_succ]
      refine wpAnyH_take (i := 1) (v := ?_) rfl (by kernel_rfl) (by kernel_rfl) (by kernel_rfl) (fun _ _ _ h => h) (Or.inl ⟨by rfl, ?_⟩) hH ?_
      rotate_left
      · intro W hSw; (try dsimp only at hSw); go_simp; try with_reducible rfl
      try simp only [Act.put, List.getElem_toArray, List.getElem_cons_zero, List.getElem_cons_succ, List.setIfInBounds_toArray, List.set_cons_zero, List.set_cons_succ]
      refine wpAnyH_take (i := 2) (v := ?_) rfl (by kernel_rfl) (by kernel_rfl) (by kernel_rfl) (fun _ _ _ h => h) (Or.inl ⟨by rfl, ?_⟩) hH ?_
      rotate_left
      · intro W hSw; (try dsimp only at hSw); go_simp; try with_reducible rfl
      try simp only [Act.put, List.getElem_toArray, List.getElem_cons_zero, List.getElem_cons_succ, List.setIfInBounds_toArray, List.set_cons_zero, List.set_cons_succ]
      refine wpAnyH_take (i := 3) (v := ?_) rfl (by kernel_rfl) (by kernel_rfl) (by kernel_rfl) (fun _ _ _ h => h) (Or.inl ⟨by rfl, ?_⟩) hH ?_
      rotate_left
      · intro W hSw; (try dsimp only at hSw); go_simp; try with_reducible rfl
      try simp only [Act.put, List.getElem_toArray, List.getElem_cons_zero, List.getElem_cons_succ, List.setIfInBounds_toArray, List.set_cons_zero, List.set_cons_succ]
      refine wpAnyH_take (i := 5) (v := ?_) rfl (by kernel_rfl) (by kernel_rfl) (by kernel_rfl) (fun _ _ _ h => h) (Or.inl ⟨by rfl, ?_⟩) hH ?_
      rotate_left
      · intro W hSw; (try dsimp only at hSw); go_simp; try with_reducible rfl
      try simp only [Act.put, List.getElem_toArray, List.getElem_cons_zero, List.getElem_cons_succ, List.setIfInBounds_toArray, List.set_cons_zero, List.set_cons_succ]
      refine wpAnyH_take (i := 6) (v := ?_) rfl (by kernel_rfl) (by kernel_rfl) (by kernel_rfl) (fun _ _ _ h => h) (Or.inl ⟨by rfl, ?_⟩) hH ?_
      rotate_left
      · intro W hSw; (try dsimp only at hSw); go_simp; try with_reducible rfl
      try simp only [Act.put, List.getElem_toArray, List.getElem_cons_zero, List.getElem_cons_succ, List.setIfInBounds_toArray, List.set_cons_zero, List.set_cons_succ]
      refine wpAnyH_take (i := 7) (v := ?_) rfl (by kernel_rfl) (by kernel_rfl) (by kernel_rfl) (fun _ _ _ h => h) (Or.inl ⟨by rfl, ?_⟩) hH ?_
      rotate_left
      · intro W hSw; (try dsimp only at hSw); go_simp; try with_reducible rfl
      try simp only [Act.put, List.getElem_toArray, List.getElem_cons_zero, List.getElem_cons_succ, List.setIfInBounds_toArray, List.set_cons_zero, List.set_cons_succ]
      refine wpAnyH_take (i := 8) (v := ?_) rfl (by kernel_rfl) (by kernel_rfl) (by kernel_rfl) (fun _ _ _ h => h) (Or.inl ⟨by rfl, ?_⟩) hH ?_
      rotate_left
      · intro W hSw; (try dsimp only at hSw); go_simp; try with_reducible rfl
      try simp only [Act.put, List.getElem_toArray, List.getElem_cons_zero, List.getElem_cons_succ, List.setIfInBounds_toArray, List.set_cons_zero, List.set_cons_succ]
      refine wpAnyH_take (i := 10) (v := ?_) rfl (by kernel_rfl) (by kernel_rfl) (by kernel_rfl) (fun _ _ _ h => h) (Or.inl ⟨by rfl, ?_⟩) hH ?_
      rotate_left
      · intro W hSw; (try dsimp only at hSw); go_simp; try with_reducible rfl
      try simp only [Act.put, List.getElem_toArray, List.getElem_cons_zero, List.getElem_cons_succ, List.setIfInBounds_toArray, List.set_cons_zero, List.set_cons_succ]
      refine wpAnyH_ready (rs := [4]) (by kernel_rfl) (by simp) (AllReadyH.cons rfl (fun K hK => ?_) AllReadyH.nil)
      go_simp
      (with_reducible refine Calls.mono (HR1.out _ hH.2) ?_)
      rintro e w5 ⟨⟨v_w5, rfl, hi_w5⟩, hb5⟩
      obtain ⟨A_w5, n_w5, c_w5, rfl⟩ : ∃ A n c, v_w5 = Value.slice A n c := by obtain ⟨A, c, e⟩ := hi_w5.shape; exact ⟨A, _, c, e⟩
      go_wp2_with fail
      refine hK.out _ _ (HSS.out _ (hH.2.trans (hb5.mono hH.2.size))) (fun hGw5 => ?_)
      clear hK K
      try simp only [Act.put, List.getElem_toArray, List.getElem_cons_zero, List.getElem_cons_succ, List.setIfInBounds_toArray, List.set_cons_zero, List.set_cons_succ]
      refine wpAnyH_ready (rs := [9]) (by kernel_rfl) (by simp) (AllReadyH.cons rfl (fun K hK => ?_) AllReadyH.nil)
      go_simp
      (with_reducible refine Calls.mono (HR2.out _ hGw5.2) ?_)
      rintro e w6 ⟨⟨v_w6, rfl, hi_w6⟩, hb6⟩
      obtain ⟨A_w6, n_w6, c_w6, rfl⟩ : ∃ A n c, v_w6 = Value.slice A n c := by obtain ⟨A, c, e⟩ := hi_w6.shape; exact ⟨A, _, c, e⟩
      go_wp2_with fail
      refine hK.out _ _ (HSS.out _ (hGw5.2.trans (hb6.mono hGw5.2.size))) (fun hGw6 => ?_)
      clear hK K
      try simp only [Act.put, List.getElem_toArray, List.getElem_cons_zero, List.getElem_cons_succ, List.setIfInBounds_toArray, List.set_cons_zero, List.set_cons_succ]
      refine wpAnyH_take (i := 11) (v := ?_) rfl (by kernel_rfl) (by kernel_rfl) (by kernel_rfl) (fun _ _ _ h => h) (Or.inl ⟨by rfl, ?_⟩) hGw6 ?_
      rotate_left
      · intro W hSw; (try dsimp only at hSw); go_simp; try with_reducible rfl
      try simp only [Act.put, List.getElem_toArray, List.getElem_cons_zero, List.getElem_cons_succ, List.setIfInBounds_toArray, List.set_cons_zero, List.set_cons_succ]
      refine wpAnyH_take (i := 12) (v := ?_) rfl (by kernel_rfl) (by kernel_rfl) (by kernel_rfl) (fun _ _ _ h => h) (Or.inl ⟨by rfl, ?_⟩) hGw6 ?_
      rotate_left
      · intro W hSw; (try dsimp only at hSw); go_simp; try with_reducible rfl
      try simp only [Act.put, List.getElem_toArray, List.getElem_cons_zero, List.getElem_cons_succ, List.setIfInBounds_toArray, List.set_cons_zero, List.set_cons_succ]
      refine wpAnyH_take (i := 13) (v := ?_) rfl (by kernel_rfl) (by kernel_rfl) (by kernel_rfl) (fun _ _ _ h => h) (Or.inl ⟨by rfl, ?_⟩) hGw6 ?_
      rotate_left
      · intro W hSw; (try dsimp only at hSw); go_simp; try with_reducible rfl
      try simp only [Act.put, List.getElem_toArray, List.getElem_cons_zero, List.getElem_cons_succ, List.setIfInBounds_toArray, List.set_cons_zero, List.set_cons_succ]
      refine wpAnyH_done (by kernel_rfl) ?_ _
      have HB6 := Lib.hid (hGw5.2.trans (hb6.mono hGw5.2.size))
      have HI5 := Lib.hid (hi_w5.keep (KeepW.of hb6 (Nat.le_refl _)))
      have HI6 := Lib.hid hi_w6
      clear hGw5 hGw6 hb5 hb6 hi_w5 hi_w6 hH
      go_wp2_with fail
      refine bodyPost_ret (res_3P rfl _ _ _) rfl ?_
      refine ⟨⟨.slice A_w5 n_w5 c_w5, .slice A_w6 n_w6 c_w6, .slice Av nv cv, rfl, HI5.out, HI6.out, (HNR.out.below HB6.out (Nat.le_refl _)).base (Nat.zero_le _)⟩, HBW.out.trans (HB6.out.mono HBW.out.size)⟩
end Go.Proofs.YtchhbnnpannnhaaDoor
