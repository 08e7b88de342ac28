/- The document's Smallest: the least machine. No condition. -/
import Derived.Test.YtfglajddibjnjaaDoorLsTw
namespace Go.Proofs.YtfglajddibjnjaaDoor
open Go.RowKit IntWalk
set_option linter.unusedSimpArgs false
attribute [local go_sem] byte_at str_app
attribute [local go_sem ↓] Go.wp_at_zero Go.wp_at_succ

theorem idx_none {E : Nat → Nat → Bool} {met : List Nat} {t : Nat} (h : ∀ j, j < met.length → E (met.getD j 0) t = false) : idxE E met t = met.length := by
  unfold idxE
  rw [List.findIdx_eq_length]
  intro x hx
  obtain ⟨j, hj, rfl⟩ := List.getElem_of_mem hx
  have := h j hj
  rw [List.getD_eq_getElem?_getD, List.getElem?_eq_getElem hj] at this
  exact this
theorem idx_some {E : Nat → Nat → Bool} {met : List Nat} {t n : Nat} (h : ∀ j, j < n → E (met.getD j 0) t = false) (hn : n < met.length) (he : E (met.getD n 0) t = true) : idxE E met t = n := by
  unfold idxE
  have hg : ∀ j (hj : j < met.length), met.getD j 0 = met[j] := fun j hj => by rw [List.getD_eq_getElem?_getD, List.getElem?_eq_getElem hj]; rfl
  rw [List.findIdx_eq hn]
  refine ⟨by rw [← hg n hn]; exact he, fun j hj => ?_⟩
  rw [← hg j (by omega)]
  exact h j hj
theorem res_cell1 {P : Program} {fn : Func} {p : Tmp} {ty : TypeId} (h : fn.results = #[.cell p ty]) (tmps : Array Value) (w : World) (g : Nat) (t : TypeId) (cs : Array Value) (fr : Nat × Nat) (d : TypeDesc)
    (hp : tmps.getD p undef = .pointer (some ⟨g, 0, none⟩)) (hg : w.heap[g]? = some (.cells cs t fr))
    (hu : P.underlying ty = some d) (hd : (match d with | .struct _ | .array _ _ => true | _ => false) = true) (hi : (P.info? ty).map (·.size) = some cs.size) :
    (results fn tmps).run P w = .ok (.agg cs) w := by
  have hp' : tmps[p]?.getD undef = .pointer (some ⟨g, 0, none⟩) := by simpa using hp
  simp [results, h, hp', asAddr, run_loadVar_row w g t ty cs fr d hg hu hd hi]
theorem own_agree {w W : World} {D n : Nat} {e : TypeId} {v : Value} {xs : List Value} (h : w.ownsRow D e 1 v n xs) (ha : ∀ k, D ≤ k → k < w.heap.size → W.heap[k]? = w.heap[k]?) : W.ownsRow D e 1 v n xs := by
  refine ⟨h.1, ?_⟩
  rcases h.2 with h2 | ⟨g, cap, cur, hv, hg, hh, r⟩
  · exact .inl h2
  · exact .inr ⟨g, cap, cur, hv, hg, (ha g hg (Array.getElem?_eq_some_iff.1 hh).1).trans hh, r⟩
theorem KY.agree {w W : World} {D : Nat} {v : Value} {KS : List (List Int)} {ok : Nat → Prop} (h : KY w D v KS ok) (ha : ∀ k, D ≤ k → k < w.heap.size → W.heap[k]? = w.heap[k]?) : KY W D v KS ok := by
  obtain ⟨KC, h1, h2, h3⟩ := h
  refine ⟨KC, h1, own_agree h2 ha, fun j hj => ?_⟩
  obtain ⟨u, k1, k2, k3⟩ := h3 j hj
  exact ⟨u, k1, own_agree k2 ha, k3⟩
abbrev nats (l : List Nat) : List Int := l.map fun x : Nat => (x : Int)
theorem gi_nats {l : List Nat} {j : Nat} (h : j < l.length) : gi (nats l) j = (l.getD j 0 : Int) := by
  unfold gi nats
  rw [List.getElem?_map, List.getD_eq_getElem?_getD, List.getElem?_eq_getElem h]; rfl

set_option maxRecDepth 100000 in
set_option maxHeartbeats 8000000 in
theorem smallest_any (M : Mc) (hMo : M.Ok) (A A2 : Option Addr) (n c m c2 B : Nat) (w : World) (hM : MacW w B A n A2 m M) (hB : B ≤ w.heap.size) :
    Calls Tryd.prog 6 #[mcv M.sg A n c A2 m c2] w fun e w' => (∃ A' k' A2' k2', e = .returned (mcv M.sg A' M.least.n k' A2' M.least.n k2') ∧ ∀ W : World, (∀ k, w.heap.size ≤ k → k < w'.heap.size → W.heap[k]? = w'.heap[k]?) → MacW W W.heap.size A' M.least.n A2' M.least.n M.least) ∧ Below w.heap.size w w' := by
  obtain ⟨i0, hi0, hz0, hz1, hz2⟩ := info_parts info_intL
  obtain ⟨i1, hi1, hy0, hy1, hy2⟩ := info_parts info_rowsL
  obtain ⟨i2, hi2, hx0, hx1, hx2⟩ := info_parts info_boolL
  have hn := hM.n_eq
  have hm := hM.m_eq
  obtain rfl : m = n := by have := hMo.tak; omega
  have hm1000 : m ≤ 1000 := by have := hMo.small; omega
  have hm0 : 0 < m := by have := hMo.pos; omega
  have h0 := heap_alloc_new w (.cells #[S M.sg, .slice A m c, .slice A2 m c2] 25)
  obtain ⟨c0, c1, c2'⟩ := mac_cells w M.sg A m c A2 m c2 25
  have hb1 := (Below.refl w.heap.size w).alloc (Nat.le_refl _) (.cells #[S M.sg, .slice A m c, .slice A2 m c2] 25)
  generalize hw1 : w.alloc (.cells #[S M.sg, .slice A m c, .slice A2 m c2] 25) = w1 at *
  have hz1' : w1.heap.size = w.heap.size + 1 := by rw [← hw1]; simp
  have h1 := heap_alloc_new w1 (.cells #[S [], .slice none 0 0, .slice none 0 0] 25)
  rw [hz1'] at h1
  have h0' := ((World.grownBy_alloc w1 (.cells #[S [], .slice none 0 0, .slice none 0 0] 25) none).block w.heap.size (by omega) (by simp)).trans h0
  have hb2 := hb1.alloc (by omega) (.cells #[S [], .slice none 0 0, .slice none 0 0] 25)
  obtain ⟨k0, k1, k2, _⟩ := three_atL h0'
  generalize hw2 : w1.alloc (.cells #[S [], .slice none 0 0, .slice none 0 0] 25) = w2 at *
  have hz2' : w2.heap.size = w.heap.size + 2 := by rw [← hw2]; simp; omega
  have HO := Lib.hid hMo; have HN := Lib.hid hn; have HB := Lib.hid hB; have HM := Lib.hid hM
  have HC := Lib.hid (And.intro h0' h1)
  have HB2 := Lib.hid hb2
  have HTD := Lib.hid (told_any M hMo A A2 m c m c2 B w2 (hM.below (hb2.mono hB)) (by omega))
  have HZ2 := Lib.hid hz2'
  have HZ1 := Lib.hid hz1'
  clear hMo hn hm hB hM h0 h1 h0' hb1 hb2 c0 c1 c2' hz1' hz2'
  go_enter Tryd.func6, Tryd.ntmps6
  go_wp2_with fail
  clear hw1 hw2 k0 k1 k2
  refine HTD.out.mono ?_
  rintro e w3 ⟨⟨wq, g, cap, G, T, rfl, hT, hTl, hQ⟩, hb3⟩
  rw [HN.out] at hT hQ ⊢
  have HT := Lib.hid hT; have HTLD := Lib.hid hTl; have HQ := Lib.hid hQ
  have HCX : Hid (∀ W, Below w3.heap.size w3 W → ((W.cell? ⟨w.heap.size, 0, none⟩ = some (S M.sg) ∧ W.cell? ⟨w.heap.size, 1, none⟩ = some (.slice A m c) ∧ W.cell? ⟨w.heap.size, 2, none⟩ = some (.slice A2 m c2)) ∧ Below w.heap.size w W) ∧ W.heap[w.heap.size + 1]? = some (.cells #[S [], .slice none 0 0, .slice none 0 0] 25 (0, 0))) := Lib.hid fun W hb => by
    have hbb : Below w2.heap.size w2 W := hb3.trans (hb.mono hb3.size)
    have hcr := (hbb.block w.heap.size (by have := HZ2.out; omega)).trans HC.out.1
    obtain ⟨a, b, c, _⟩ := three_atL hcr
    exact ⟨⟨⟨a, b, c⟩, HB2.out.trans (hbb.mono HB2.out.size)⟩, (hbb.block (w.heap.size + 1) (by have := HZ2.out; omega)).trans HC.out.2⟩
  obtain ⟨b2, o2, hA2, hb2, ht0⟩ := HM.out.tks.2 hm0
  subst hA2
  obtain ⟨b3, o3, hA3, hb3', hr0⟩ := HM.out.rows.2 hm0
  subst hA3
  have HTC : Hid (∀ W, Below w3.heap.size w3 W → ∀ j, j < m → W.cell? ⟨b2, o2 + j, none⟩ = some (.bool (bo M.tk j))) := Lib.hid fun W hb j hj => ((HCX.out W hb).1.2.cell (p := ⟨b2, o2 + j, none⟩) (Nat.lt_of_lt_of_le hb2 HB.out)).trans (ht0 j hj)
  have HRX : Hid (∀ W, Below w3.heap.size w3 W → ∀ j, j < m → ∃ (b : Option Addr) (o1 o2 cc : Nat), W.cell? ⟨b3, o3 + j, none⟩ = some (.slice (if M.s = 0 then b else some ⟨o1, o2, none⟩) M.s cc) ∧ ∀ d, d < M.s → W.cell? ⟨o1, o2 + d, none⟩ = some (.int .i64 (M.st j d : Int))) := Lib.hid fun W hb j hj => by
    have hbw := (HCX.out W hb).1.2
    obtain ⟨a, mm, cc, h1, h2⟩ := hr0 j hj
    obtain rfl : mm = M.s := h2.1.symm.trans (HO.out.row j (by rw [HN.out]; exact hj))
    have h1' := (hbw.cell (p := ⟨b3, o3 + j, none⟩) (Nat.lt_of_lt_of_le hb3' HB.out)).trans h1
    have h2' := h2.keep (w' := W) fun p hp => hbw.cell (Nat.lt_of_lt_of_le hp HB.out)
    by_cases h0 : M.s = 0
    · exact ⟨a, 0, 0, cc, by rw [if_pos h0]; exact h1', fun d hd => absurd hd (by omega)⟩
    · obtain ⟨b, o, rfl, _, h3⟩ := h2'.2 (by omega)
      refine ⟨none, b, o, cc, by rw [if_neg h0]; exact h1', fun d hd => ?_⟩
      rw [← HO.out.st_eq (by rw [HN.out]; exact hj) hd]
      exact h3 d hd
  have HTB : Hid (∀ W, Below w3.heap.size w3 W → TB wq (w2.heap.size + 1) m g G T W) := Lib.hid fun W hb => HT.out.below hb (by have h1 := HT.out.row 0 hm0; have h2 := h1.lt; have h3 := HT.out.big 0 hm0; omega)
  have HBB := Lib.hid (Nat.lt_of_lt_of_le hb2 HB.out)
  have HZ3 : Hid (w.heap.size + 2 ≤ w3.heap.size) := Lib.hid (by have := hb3.size; have := HZ2.out; omega)
  have HST : Hid (OutR M.sg w3 w3.heap.size (w3.heap.size + 1) [] [] (.slice none 0 0) (.slice none 0 0) (fun b => (Value.slice (some ⟨w3.heap.size + 1, 0, none⟩) 1 1).ownBlock ≠ some b) ((w3.alloc (.cells #[S M.sg, .slice none 0 0, .slice none 0 0] 25)).alloc (.cells #[.int .i64 0] 3))) := Lib.hid (by
    have h := heap_alloc_new w3 (.cells #[S M.sg, .slice none 0 0, .slice none 0 0] 25)
    exact OutR.alloc ⟨h, KY.nil _ _ _, World.ownsRow_nil _ _ _ _, (Below.refl _ _).alloc (Nat.le_refl _) _, by omega⟩ _)
  have HMT : Hid (OwI ((w3.alloc (.cells #[S M.sg, .slice none 0 0, .slice none 0 0] 25)).alloc (.cells #[.int .i64 0] 3)) (w3.heap.size + 1) (.slice (some ⟨w3.heap.size + 1, 0, none⟩) 1 1) (nats [0])) := Lib.hid (by
    have h := World.ownsRow_lit (base := w3.heap.size + 1) (e := 3) (size := 1) (w3.alloc (.cells #[S M.sg, .slice none 0 0, .slice none 0 0] 25)) #[.int .i64 0] 1 (by simp) (by decide) (by simp)
    rw [World.size_alloc] at h
    exact h)
  obtain ⟨a0, a1, a2⟩ := (HCX.out w3 (Below.refl _ _)).1.1
  clear hT hTl hQ hb3 hb2 ht0 hb3' hr0 HTD HT
  have e0 : ∀ o, (w3.alloc o).cell? ⟨w.heap.size, 0, none⟩ = some (S M.sg) := fun o => (World.cell?_alloc_lt w3 o ⟨w.heap.size, 0, none⟩ (by show w.heap.size < w3.heap.size; have := HZ3.out; omega)).trans a0
  go_wp2_with fail
  clear e0 a0 a1 a2
  have HGO : Hid (w.heap.size + 2 ≤ w3.heap.size ∧ w1.heap.size = w.heap.size + 1) := Lib.hid ⟨HZ3.out, HZ1.out⟩
  generalize (w3.alloc (.cells #[S M.sg, .slice none 0 0, .slice none 0 0] 25)).alloc (.cells #[.int .i64 0] 3) = w4 at *
  generalize w1.heap.size = gR at *
  generalize hD : w3.heap.size + 1 = D at *
  have HD := Lib.hid hD
  clear hD
  generalize hgO : w3.heap.size = gO at *
  have HGW := Lib.hid hgO
  clear hgO
  go_loopg [5, 6] m (fun f mv iv wr => ∃ (a : Nat) (vN vT : Value), a + f = m ∧ iv = .int .i64 (a : Int) ∧ Hid (OutR M.sg w3 gO D (bfs M M.eqB a).rows (bfs M M.eqB a).tks vN vT (fun b => mv.ownBlock ≠ some b) wr) ∧ Hid (OwI wr D mv (nats (bfs M M.eqB a).met)))
  case atStart => exact ⟨0, _, _, by omega, rfl, HST, HMT⟩
  case round =>
    clear HST HMT
    obtain ⟨a, vN, vT, haf, rfl, HR, HME⟩ := hrel
    have hok := bfs_ok HO.out a
    have hlow : Below gO w3 wr := HR.out.low
    obtain ⟨⟨⟨a0, a1, a2⟩, hbw⟩, hres⟩ := HCX.out wr hlow
    obtain ⟨AM, cM, hmv, _⟩ := own_shape HME.out
    rw [List.length_map, List.length_map] at hmv
    by_cases ha : a < (bfs M M.eqB a).met.length
    · have hle := hok.met.len
      obtain ⟨f, rfl⟩ : ∃ f, gk = f + 1 := ⟨gk - 1, by have := HN.out; omega⟩
      have HSTP : Hid (bfs M M.eqB (a + 1) = ⟨(rowG M M.eqB ((bfs M M.eqB a).met.getD a 0) (bfs M M.eqB a).met M.s).1, (bfs M M.eqB a).rows ++ [(rowG M M.eqB ((bfs M M.eqB a).met.getD a 0) (bfs M M.eqB a).met M.s).2], (bfs M M.eqB a).tks ++ [bo M.tk ((bfs M M.eqB a).met.getD a 0)]⟩) := Lib.hid (by
        rw [show bfs M M.eqB (a + 1) = if a < (bfs M M.eqB a).met.length then ⟨(rowG M M.eqB ((bfs M M.eqB a).met.getD a 0) (bfs M M.eqB a).met M.s).1, (bfs M M.eqB a).rows ++ [(rowG M M.eqB ((bfs M M.eqB a).met.getD a 0) (bfs M M.eqB a).met M.s).2], (bfs M M.eqB a).tks ++ [bo M.tk ((bfs M M.eqB a).met.getD a 0)]⟩ else bfs M M.eqB a from rfl, if_pos ha])
      have hil := hok.met.at_lt HO.out a
      have HLEN : Hid ((bfs M M.eqB a).rows.length ≤ 1000 ∧ (bfs M M.eqB a).tks.length ≤ 1000 ∧ (bfs M M.eqB a).met.length ≤ m) := Lib.hid ⟨by have := hok.rl; have := HN.out; omega, by have := hok.tl; have := HN.out; omega, by have := HN.out; omega⟩
      have HMO := Lib.hid hok.met
      clear hok hle
      generalize hp : bfs M M.eqB a = p at *
      obtain ⟨mt, R, Tk⟩ := p
      simp only [] at *
      obtain ⟨bm, om, hAM, _, cm⟩ := (ints_own2 (by rw [← hmv]; exact HME.out : OwI wr D (.slice AM mt.length cM) (nats mt))).at_ ha
      subst hAM
      subst hmv
      rw [gi_nats ha] at cm
      have HIL := Lib.hid hil
      have HAL := Lib.hid ha
      generalize mt.getD a 0 = ti at *
      have hti : ti < m := by rw [← HN.out]; exact hil
      have p1 : (a : Int) < (mt.length : Int) := by omega
      have p2 : IntKind.i64.wrap ((a : Int) + 1) = (a : Int) + 1 := i64_in _ (by have := HLEN.out; omega)
      have p3 : (ti : Int) < (m : Int) := by omega
      obtain ⟨AT, cT, hvT, _⟩ := own_shape HR.out.tks
      subst hvT
      obtain ⟨AN, cN, hvN⟩ := HR.out.rows.shape
      subst hvN
      have hx := HR.out
      obtain ⟨d0, d1, d2, _, _, _⟩ := three_atL hx.out
      have ct := HTC.out wr hlow ti hti
      have HTIM := Lib.hid hti
      have hmap : (Tk.map Value.bool).length ≤ 1000 := by rw [List.length_map]; exact HLEN.out.2.1
      have HTL2 := Lib.hid hmap
      have htk := hx.tks
      obtain ⟨TV, hTV⟩ : ∃ TV, Tk.map Value.bool = TV := ⟨_, rfl⟩
      rw [hTV] at d2 htk HTL2 HR
      have HTK := Lib.hid (show wr.ownsRow D 4 1 (.slice AT TV.length cT) TV.length TV from htk)
      have HTV := Lib.hid hTV
      have HTL := HTL2
      have HLT : Hid (w.heap.size < gO ∧ b2 < gO ∧ gO < D ∧ D ≤ wr.heap.size) := Lib.hid ⟨by have := HGO.out; omega, by have := HGO.out; have := HBB.out; omega, hx.lt, by have := hx.gt; have := HD.out; omega⟩
      have HBV := Lib.hid (show bo M.tk ti = bo M.tk ti from rfl)
      generalize hbv : bo M.tk ti = bv at *
      clear hx hmap htk hTV HTL2 d0 d1 hp hil ha hbw hres hbv
      go_upto_region 9 with fail
      clear cm a0 a1
      have hRd := (HR.out.drewN 1 : OutR M.sg w3 gO D R Tk _ _ (fun b => (Value.slice (some ⟨bm, om, none⟩) mt.length cM).ownBlock ≠ some b) wr.drew)
      have hlt := HLT.out
      have s0 : wr.drew.cell? ⟨w.heap.size, 2, none⟩ = some (.slice (some ⟨b2, o2, none⟩) m c2) ∧ wr.drew.cell? ⟨b2, o2 + ti, none⟩ = some (.bool bv) := ⟨a2, ct⟩
      have s1 : (wr.drew.alloc (.cells #[.bool bv] 4)).cell? ⟨w.heap.size, 2, none⟩ = some (.slice (some ⟨b2, o2, none⟩) m c2) ∧ (wr.drew.alloc (.cells #[.bool bv] 4)).cell? ⟨b2, o2 + ti, none⟩ = some (.bool bv) := ⟨(World.cell?_alloc_lt wr.drew _ ⟨w.heap.size, 2, none⟩ (show w.heap.size < wr.heap.size by omega)).trans s0.1, (World.cell?_alloc_lt wr.drew _ ⟨b2, o2 + ti, none⟩ (show b2 < wr.heap.size by omega)).trans s0.2⟩
      have d2e : (wr.drew.alloc (.cells #[.bool bv] 4)).cell? ⟨gO, 2, none⟩ = some (.slice AT TV.length cT) := (World.cell?_alloc_lt wr.drew _ ⟨gO, 2, none⟩ (show gO < wr.heap.size by omega)).trans d2
      have d2e2 : (wr.alloc (.cells #[.bool bv] 4)).cell? ⟨gO, 2, none⟩ = some (.slice AT TV.length cT) := d2e
      refine wp_region_held_drew (S := fun W => W.cell? ⟨w.heap.size, 2, none⟩ = some (.slice (some ⟨b2, o2, none⟩) m c2) ∧ W.cell? ⟨b2, o2 + ti, none⟩ = some (.bool bv)) (by first | assumption | kernel_rfl | rfl) s0 (fun hH => ?_)
      refine wpAnyH_take (i := 0) (v := ?_) rfl (by kernel_rfl) (by kernel_rfl) (by kernel_rfl) (fun _ _ _ h => h) (Or.inl ⟨by rfl, ?_⟩) hH ?_
      rotate_left
      · intro W hSw; (try dsimp only at hSw); go_simp; try with_reducible rfl
      try simp only [Act.put, List.getElem_toArray, List.getElem_cons_zero, List.getElem_cons_succ, List.setIfInBounds_toArray, List.set_cons_zero, List.set_cons_succ]
      refine wpAnyH_take (i := 2) (v := ?_) rfl (by kernel_rfl) (by kernel_rfl) (by kernel_rfl) (fun _ _ _ h => h) (Or.inl ⟨by rfl, ?_⟩) hH ?_
      rotate_left
      · intro W hSw; (try dsimp only at hSw); go_simp; try with_reducible rfl
      try simp only [Act.put, List.getElem_toArray, List.getElem_cons_zero, List.getElem_cons_succ, List.setIfInBounds_toArray, List.set_cons_zero, List.set_cons_succ]
      refine wpAnyH_take (i := 3) (v := ?_) rfl (by kernel_rfl) (by kernel_rfl) (by kernel_rfl) (fun _ _ _ h => h) (Or.inl ⟨by rfl, ?_⟩) hH ?_
      rotate_left
      · intro W hSw; (try dsimp only at hSw); go_simp; try with_reducible rfl
      try simp only [Act.put, List.getElem_toArray, List.getElem_cons_zero, List.getElem_cons_succ, List.setIfInBounds_toArray, List.set_cons_zero, List.set_cons_succ]
      refine wpAnyH_take (i := 4) (v := ?_) rfl (by kernel_rfl) (by kernel_rfl) (by kernel_rfl) (fun _ _ _ h => h) (Or.inl ⟨by rfl, ?_⟩) hH ?_
      rotate_left
      · intro W hSw; (try dsimp only at hSw); go_simp; try with_reducible rfl
      try simp only [Act.put, List.getElem_toArray, List.getElem_cons_zero, List.getElem_cons_succ, List.setIfInBounds_toArray, List.set_cons_zero, List.set_cons_succ]
      refine wpAnyH_take (i := 5) (v := ?_) rfl (by kernel_rfl) (by kernel_rfl) (by kernel_rfl) (fun _ _ _ h => h) (Or.inl ⟨by rfl, ?_⟩) hH ?_
      rotate_left
      · intro W hSw; (try dsimp only at hSw); go_simp; try with_reducible rfl
      try simp only [Act.put, List.getElem_toArray, List.getElem_cons_zero, List.getElem_cons_succ, List.setIfInBounds_toArray, List.set_cons_zero, List.set_cons_succ]
      refine wpAnyH_take (i := 6) (v := ?_) rfl (by kernel_rfl) (by kernel_rfl) (by kernel_rfl) (fun _ _ _ h => h) (Or.inl ⟨by rfl, ?_⟩) hH ?_
      rotate_left
      · intro W hSw; (try dsimp only at hSw); go_simp; try with_reducible rfl
      try simp only [Act.put, List.getElem_toArray, List.getElem_cons_zero, List.getElem_cons_succ, List.setIfInBounds_toArray, List.set_cons_zero, List.set_cons_succ]
      refine wpAnyH_ready (rs := [1, 7]) (by kernel_rfl) (by simp) (AllReadyH.cons rfl (fun K hK => ?_) (AllReadyH.cons rfl (fun K hK => ?_) AllReadyH.nil))
      · go_simp
        change K _ wr.drew
        refine hK.out _ _ s0 (fun hH5 => ?_)
        clear hK K
        try simp only [Act.put, List.getElem_toArray, List.getElem_cons_zero, List.getElem_cons_succ, List.setIfInBounds_toArray, List.set_cons_zero, List.set_cons_succ]
        refine wpAnyH_ready (rs := [7]) (by kernel_rfl) (by simp) (AllReadyH.cons rfl (fun K hK => ?_) AllReadyH.nil)
        go_simp
        change K _ (wr.drew.alloc (.cells #[.bool bv] 4))
        refine hK.out _ _ s1 (fun hH5 => ?_)
        clear hK K
        try simp only [Act.put, List.getElem_toArray, List.getElem_cons_zero, List.getElem_cons_succ, List.setIfInBounds_toArray, List.set_cons_zero, List.set_cons_succ]
        refine wpAnyH_ready (rs := [8]) (by kernel_rfl) (by simp) (AllReadyH.cons rfl (fun K hK => ?_) AllReadyH.nil)
        rw [if_pos (by rfl)]
        refine wp_append1g (w := wr.drew) (.tmp 29) (.tmp 35) _ rfl 4 i2 _ Tryd.underlying23 hi2 hx0 hx1 (by omega) rfl D (.slice AT TV.length cT) _ (.bool bv) rfl rfl rfl HTK.out (by have := HTL.out; omega) (by show D ≤ wr.heap.size; omega) ?_
        intro v2 w6 hown2 hgr2 hloc2
        obtain ⟨Av2, nv2, cv2, ev2⟩ : ∃ A n c, v2 = .slice A n c := by obtain ⟨A', c', e, _⟩ := own_shape hown2; exact ⟨A', _, c', e⟩
        subst ev2
        have hTo : ∀ k, (Value.slice AT TV.length cT).ownBlock = some k → D ≤ k := fun k hk => own_lt HTK.out hk
        have s2 : w6.cell? ⟨w.heap.size, 2, none⟩ = some (.slice (some ⟨b2, o2, none⟩) m c2) ∧ w6.cell? ⟨b2, o2 + ti, none⟩ = some (.bool bv) := ⟨(World.cell?_of_block (a := ⟨w.heap.size, 2, none⟩) (hgr2.block (w.heap.size) (show w.heap.size < wr.heap.size by omega) (fun e => by have := hTo _ e.symm; omega))).trans s0.1, (World.cell?_of_block (a := ⟨b2, o2 + ti, none⟩) (hgr2.block b2 (show b2 < wr.heap.size by omega) (fun e => by have := hTo _ e.symm; omega))).trans s0.2⟩
        have hR6 := Lib.hid (hRd.addT (b := bv) hgr2 (by rw [List.map_append, HTV.out]; exact hown2))
        have HME7 := Lib.hid (hRd.keepT (v' := .slice Av2 nv2 cv2) hgr2 (by decide) HME.out)
        have hO6 : w6.heap[gO]? = some (.cells #[S M.sg, .slice AN R.length cN, .slice AT TV.length cT] 25 (0, 0)) := (hgr2.block (gO) (show gO < wr.heap.size by omega) (fun e => by have := hTo _ e.symm; omega)).trans hRd.out
        obtain ⟨_, _, g2, _, _, g5⟩ := three_atL hO6
        try simp only [Act.put, List.getElem_toArray, List.getElem_cons_zero, List.getElem_cons_succ, List.setIfInBounds_toArray, List.set_cons_zero, List.set_cons_succ]
        refine hK.out _ _ s2 (fun hH7 => ?_)
        clear hK K
        try simp only [Act.put, List.getElem_toArray, List.getElem_cons_zero, List.getElem_cons_succ, List.setIfInBounds_toArray, List.set_cons_zero, List.set_cons_succ]
        refine wpAnyH_take (i := 9) (v := ?_) rfl (by kernel_rfl) (by kernel_rfl) (by kernel_rfl) (fun _ _ _ h => h) (Or.inl ⟨by rfl, ?_⟩) hH7 ?_
        rotate_left
        · intro W hSw; (try dsimp only at hSw); go_simp; try with_reducible rfl
        try simp only [Act.put, List.getElem_toArray, List.getElem_cons_zero, List.getElem_cons_succ, List.setIfInBounds_toArray, List.set_cons_zero, List.set_cons_succ]
        refine wpAnyH_ready (rs := [10]) (by kernel_rfl) (by simp) (AllReadyH.cons rfl (fun K hK => ?_) AllReadyH.nil)
        go_simp
        change K _ (w6.setCell ⟨gO, 2, none⟩ (.slice Av2 nv2 cv2))
        have s3 : (w6.setCell ⟨gO, 2, none⟩ (.slice Av2 nv2 cv2)).cell? ⟨w.heap.size, 2, none⟩ = some (.slice (some ⟨b2, o2, none⟩) m c2) ∧ (w6.setCell ⟨gO, 2, none⟩ (.slice Av2 nv2 cv2)).cell? ⟨b2, o2 + ti, none⟩ = some (.bool bv) := ⟨(World.cell?_setCell_far w6 ⟨gO, 2, none⟩ ⟨w.heap.size, 2, none⟩ _ (by show gO ≠ w.heap.size; omega)).trans s2.1, (World.cell?_setCell_far w6 ⟨gO, 2, none⟩ ⟨b2, o2 + ti, none⟩ _ (by show gO ≠ b2; omega)).trans s2.2⟩
        refine hK.out _ _ s3 (fun hH8 => ?_)
        clear hK K
        try simp only [Act.put, List.getElem_toArray, List.getElem_cons_zero, List.getElem_cons_succ, List.setIfInBounds_toArray, List.set_cons_zero, List.set_cons_succ]
        refine wpAnyH_done (by kernel_rfl) ?_ _
        generalize w6.setCell ⟨gO, 2, none⟩ (.slice Av2 nv2 cv2) = w7 at *
        clear s0 s1 s2 s3 d2e d2e2 hO6 g2 g5 hown2 hgr2 hloc2 hTo hRd hlt a2 ct d2 HR 
        have HS0 : Hid (SmR M.sg w3 gO D R (Tk ++ [bv]) (.slice AN R.length cN) (.slice Av2 nv2 cv2) (.slice (some ⟨bm, om, none⟩) mt.length cM) (.slice none 0 0) (nats (rowG M M.eqB ti mt 0).1) (rowG M M.eqB ti mt 0).2 w7) := Lib.hid ⟨hR6.out.weak fun b _ h => ⟨by simp [Value.ownBlock], h⟩, HME7.out, World.ownsRow_nil _ _ _ _, fun k _ => by simp [Value.ownBlock]⟩
        clear hR6 HME7
        go_wp2_with fail
        go_loopg [5, 8, 9] M.s (fun f2 mv rv cv wx => ∃ d : Nat, d + f2 = M.s ∧ cv = .int .i64 (d : Int) ∧ Hid (SmR M.sg w3 gO D R (Tk ++ [bv]) (.slice AN R.length cN) (.slice Av2 nv2 cv2) mv rv (nats (rowG M M.eqB ti mt d).1) (rowG M M.eqB ti mt d).2 wx))
        case atStart => exact ⟨0, by omega, rfl, HS0⟩
        case round =>
          clear HS0
          obtain ⟨d, hdf, rfl, HX⟩ := hrel
          obtain ⟨⟨⟨a0, a1, a2⟩, hbw⟩, hres⟩ := HCX.out wr HX.out.out.low
          by_cases hld : d < M.s
          · obtain ⟨f2, rfl⟩ : ∃ f, gk = f + 1 := ⟨gk - 1, by omega⟩
            have q1 : (d : Int) < (M.s : Int) := by omega
            have q2 : IntKind.i64.wrap ((d : Int) + 1) = (d : Int) + 1 := i64_in _ (by have := HO.out.few; omega)
            have hne : ¬ M.s = 0 := by omega
            obtain ⟨_, b4, o4, cc4, u1, u2⟩ := HRX.out wr HX.out.out.low ti HTIM.out
            rw [if_neg hne] at u1
            have u5 := u2 d hld
            have hst : M.st ti d < m := by rw [← HN.out]; exact HO.out.st_lt HIL.out hld
            have HG1 : Hid (rowG M M.eqB ti mt (d + 1) = (if idxE M.eqB (rowG M M.eqB ti mt d).1 (M.st ti d) = (rowG M M.eqB ti mt d).1.length then (rowG M M.eqB ti mt d).1 ++ [M.st ti d] else (rowG M M.eqB ti mt d).1, (rowG M M.eqB ti mt d).2 ++ [(idxE M.eqB (rowG M M.eqB ti mt d).1 (M.st ti d) : Int)])) := Lib.hid rfl
            obtain ⟨hgm, _, hgl, _⟩ := rowG_ok HO.out HIL.out HMO.out d (by omega)
            have HGM := Lib.hid hgm
            have HGL : Hid ((rowG M M.eqB ti mt d).2.length ≤ 1000 ∧ (rowG M M.eqB ti mt d).1.length ≤ m) := Lib.hid ⟨by rw [hgl]; have := HO.out.few; omega, by have h1 := hgm.len; have h2 := HN.out; omega⟩
            have HST := Lib.hid hst
            have HTBr := Lib.hid (HTB.out wr HX.out.out.low)
            have HDS : Hid (D ≤ wr.heap.size) := Lib.hid (by have := HX.out.out.gt; have := HD.out; omega)
            generalize M.st ti d = t at *
            generalize rowG M M.eqB ti mt d = rg at *
            obtain ⟨met, row⟩ := rg
            simp only [] at *
            obtain ⟨Am, cm, hmv, _⟩ := own_shape HX.out.me
            rw [List.length_map, List.length_map] at hmv
            subst hmv
            have HMI := Lib.hid (ints_own2 HX.out.me)
            clear hne u2 hgm hgl hbw hres
            go_wp2_with fail
            clear u1 u5 a0 a1 a2
            have HW : Hid (∃ W : World, W = wr) := Lib.hid ⟨_, rfl⟩
            generalize hwx : wr = wx at *
            go_loopg [11] met.length (fun f3 nv wy => ∃ q : Nat, q + f3 = met.length ∧ nv = .int .i64 (q : Int) ∧ wx = wy ∧ Hid (∀ j, j < q → M.eqB (met.getD j 0) t = false))
            case atStart => exact ⟨0, by omega, rfl, rfl, Lib.hid fun j hj => absurd hj (by omega)⟩
            case round =>
              obtain ⟨q, hqf, rfl, rfl, HQN⟩ := hrel
              by_cases hql : q < met.length
              · obtain ⟨f3, rfl⟩ : ∃ f, gk = f + 1 := ⟨gk - 1, by omega⟩
                have s1 : (q : Int) < (met.length : Int) := by omega
                have s2 : IntKind.i64.wrap ((q : Int) + 1) = (q : Int) + 1 := i64_in _ (by have := HGL.out.2; omega)
                have s3 : ((q : Int) == (met.length : Int)) = false := by simp; omega
                have s4 : (q == met.length) = false := by simp; omega
                obtain ⟨bmm, omm, hAm, _, cq⟩ := HMI.out.at_ (k := q) hql
                subst hAm
                rw [gi_nats hql] at cq
                have hmq : met.getD q 0 < m := by rw [← HN.out]; exact HGM.out.at_lt HO.out q
                have t2 := HTBr.out.cell_top hmq
                have t3 := HTBr.out.cell_at hmq HST.out
                have s5 : (met.getD q 0 : Int) < (m : Int) := by omega
                have s6 : (t : Int) < (m : Int) := by have := HST.out; omega
                have hfin : bb T (met.getD q 0) t = !M.eqB (met.getD q 0) t := HTLD.out.fin HO.out (by rw [HN.out]; exact HQ.out) (by rw [HN.out]; exact hmq) (by rw [HN.out]; exact HST.out)
                rw [hfin] at t3
                by_cases he : M.eqB (met.getD q 0) t = true
                · rw [he, Bool.not_true] at t3
                  have hidx := idx_some HQN.out hql he
                  rw [hidx, if_neg (by omega)] at HG1
                  have HRWL : Hid ((row.map (Value.int .i64)).length ≤ 1000000) := Lib.hid (by rw [List.length_map]; have := HGL.out.1; omega)
                  generalize met.getD q 0 = mq at *
                  clear he hidx hfin HQN
                  go_wp2_with (at_builtin; refine wpList_append1g rfl (.tmp 79) (.tmp 81) _ rfl 3 i0 _ Tryd.underlying44 hi0 hz0 hz1 (by omega) rfl D u8 (row.map (Value.int .i64)) (.int .i64 (q : Int)) rfl rfl rfl HX.out.rw_ HRWL.out HDS.out ?_; intro v9 w9 hown9 hgr9 hloc9)
                  have HX9 := Lib.hid (HX.out.addR hgr9 hloc9 hown9)
                  clear hown9 hgr9 hloc9 HX HMI cq t2 t3
                  go_roundg f2
                  case measure => omega
                  case rel => exact ⟨d + 1, by omega, by simp, by rw [HG1.out]; exact HX9⟩
                · have he' : M.eqB (met.getD q 0) t = false := by simpa using he
                  rw [he', Bool.not_false] at t3
                  have HQ2 : Hid (∀ j, j < q + 1 → M.eqB (met.getD j 0) t = false) := Lib.hid fun j hj => by
                    rcases Nat.lt_or_ge j q with hl | hl
                    · exact HQN.out j hl
                    · obtain rfl : j = q := by omega
                      exact he'
                  generalize met.getD q 0 = mq at *
                  clear he he' hfin HQN
                  go_wp2_with fail
                  go_roundg f3
                  case measure => omega
                  case rel => exact ⟨q + 1, by omega, by simp, rfl, HQ2⟩
              · obtain hqe : q = met.length := by omega
                have hidx := idx_none (E := M.eqB) (met := met) (t := t) (fun j hj => HQN.out j (by omega))
                rw [hidx, if_pos rfl] at HG1
                have HRWL : Hid ((row.map (Value.int .i64)).length ≤ 1000000 ∧ ((nats met).map (Value.int .i64)).length ≤ 1000000) := Lib.hid ⟨by rw [List.length_map]; have := HGL.out.1; omega, by rw [List.length_map, List.length_map]; have := HGL.out.2; omega⟩
                have s3 : ((met.length : Int) == (met.length : Int)) = true := by simp
                have s1 : ¬ (met.length : Int) < (met.length : Int) := by omega
                clear hidx HQN
                subst hqe
                go_wp2_with (first
                  | (at_builtin; refine wpList_append1g rfl (.tmp 75) (.tmp 77) _ rfl 3 i0 _ Tryd.underlying44 hi0 hz0 hz1 (by omega) rfl D _ ((nats met).map (Value.int .i64)) (.int .i64 (t : Int)) rfl rfl rfl HX.out.me HRWL.out.2 HDS.out ?_; intro v9 w9 hown9 hgr9 hloc9)
                  | (at_builtin; refine wpList_append1g rfl (.tmp 79) (.tmp 81) _ rfl 3 i0 _ Tryd.underlying44 hi0 hz0 hz1 (by omega) rfl D u8 (row.map (Value.int .i64)) (.int .i64 (met.length : Int)) rfl rfl rfl (HX.out.addM hgr9 hloc9 hown9).rw_ HRWL.out.1 (by have := HDS.out; have := hgr9.size; omega) ?_; intro v10 w10 hown10 hgr10 hloc10))
                have HX9 := Lib.hid ((HX.out.addM hgr9 hloc9 hown9).addR hgr10 hloc10 hown10)
                clear hown9 hgr9 hloc9 hown10 hgr10 hloc10 HX HMI
                go_roundg f2
                case measure => omega
                case rel => exact ⟨d + 1, by omega, by simp, by rw [HG1.out]; exact (by simpa [nats] using HX9)⟩
          · obtain rfl : M.s = d := by omega
            have q1 : ¬ (M.s : Int) < (M.s : Int) := by omega
            obtain ⟨Ar, cq, hvr, _⟩ := own_shape HX.out.rw_
            obtain ⟨_, _, hgl, _⟩ := rowG_ok HO.out HIL.out HMO.out M.s (Nat.le_refl _)
            rw [List.length_map, hgl] at hvr
            subst hvr
            have HW := Lib.hid (HX.out.out.weak (ok' := fun b => u5.ownBlock ≠ some b) (fun b _ h => h.2))
            have HMEE := Lib.hid HX.out.me
            have HROE := Lib.hid HX.out.rw_
            have HNEE := Lib.hid HX.out.ne
            generalize rowG M M.eqB ti mt M.s = rg at *
            obtain ⟨met, row⟩ := rg
            simp only [] at *
            obtain ⟨KC, hk1, hk2, hk3⟩ := HW.out.rows
            have HK1 := Lib.hid hk1; have HK2 := Lib.hid hk2; have HK3 := Lib.hid hk3
            obtain ⟨d0, d1, d2, f0, f1, f2'⟩ := three_atL HW.out.out
            have HDS : Hid (D ≤ wr.heap.size ∧ gO < wr.heap.size) := Lib.hid ⟨by have := HW.out.gt; have := HD.out; omega, HW.out.gt⟩
            clear hk1 hk2 hk3 hgl HX hbw hres
            go_wp2_with (at_builtin; refine wpList_append1g rfl (.tmp 84) (.tmp 86) _ rfl 44 i1 _ Tryd.underlying22 hi1 hy0 hy1 (by omega) rfl D (.slice AN R.length cN) KC (.slice Ar M.s cq) rfl rfl rfl HK2.out (by have := HK1.out; have := HLEN.out.1; omega) HDS.out.1 ?_; intro v11 w11 hown11 hgr11 hloc11; obtain ⟨A11, n11, c11, e11⟩ : ∃ A n c, v11 = .slice A n c := (by obtain ⟨A', c', e, _⟩ := own_shape hown11; exact ⟨A', _, c', e⟩); subst e11; have hOb : w11.heap[gO]? = wr.heap[gO]? := hgr11.block _ HDS.out.2 (fun e => by have h1 := HW.out.rows.lt e.symm; have := HW.out.lt; omega); have s5 : w11.cell? ⟨gO, 1, none⟩ = some (.slice AN R.length cN) := (World.cell?_of_block (a := ⟨gO, 1, none⟩) hOb).trans d1; have s6 : w11.frozen? ⟨gO, 1, none⟩ = false := (World.frozen?_of_block (a := ⟨gO, 1, none⟩) hOb).trans f1)
            have HNX := Lib.hid (HW.out.addN (K := row) HK1.out HK2.out HK3.out HROE.out (fun k hk e => HNEE.out k e hk) hgr11 hown11)
            have HMX := Lib.hid (HW.out.keepN (v' := .slice A11 n11 c11) hgr11 (by decide) HMEE.out)
            clear hown11 hgr11 hloc11 hOb s5 s6 d0 d1 d2 f0 f1 f2' a0 a1 a2 HW HDS HK1 HK2 HK3 HMEE HROE HNEE
            go_roundg f
            case measure => omega
            case rel => exact ⟨a + 1, _, _, by omega, by simp, by rw [HSTP.out]; exact HNX, by rw [HSTP.out]; exact HMX⟩
      · go_simp
        change K _ (wr.drew.alloc (.cells #[.bool bv] 4))
        refine hK.out _ _ s1 (fun hH5 => ?_)
        clear hK K
        try simp only [Act.put, List.getElem_toArray, List.getElem_cons_zero, List.getElem_cons_succ, List.setIfInBounds_toArray, List.set_cons_zero, List.set_cons_succ]
        refine wpAnyH_ready (rs := [1]) (by kernel_rfl) (by simp) (AllReadyH.cons rfl (fun K hK => ?_) AllReadyH.nil)
        go_simp
        change K _ (wr.drew.alloc (.cells #[.bool bv] 4))
        refine hK.out _ _ s1 (fun hH6 => ?_)
        clear hK K
        try simp only [Act.put, List.getElem_toArray, List.getElem_cons_zero, List.getElem_cons_succ, List.setIfInBounds_toArray, List.set_cons_zero, List.set_cons_succ]
        refine wpAnyH_ready (rs := [8]) (by kernel_rfl) (by simp) (AllReadyH.cons rfl (fun K hK => ?_) AllReadyH.nil)
        rw [if_pos (by rfl)]
        refine wp_append1g (w := wr.drew) (.tmp 29) (.tmp 35) _ rfl 4 i2 _ Tryd.underlying23 hi2 hx0 hx1 (by omega) rfl D (.slice AT TV.length cT) _ (.bool bv) rfl rfl rfl HTK.out (by have := HTL.out; omega) (by show D ≤ wr.heap.size; omega) ?_
        intro v2 w6 hown2 hgr2 hloc2
        obtain ⟨Av2, nv2, cv2, ev2⟩ : ∃ A n c, v2 = .slice A n c := by obtain ⟨A', c', e, _⟩ := own_shape hown2; exact ⟨A', _, c', e⟩
        subst ev2
        have hTo : ∀ k, (Value.slice AT TV.length cT).ownBlock = some k → D ≤ k := fun k hk => own_lt HTK.out hk
        have s2 : w6.cell? ⟨w.heap.size, 2, none⟩ = some (.slice (some ⟨b2, o2, none⟩) m c2) ∧ w6.cell? ⟨b2, o2 + ti, none⟩ = some (.bool bv) := ⟨(World.cell?_of_block (a := ⟨w.heap.size, 2, none⟩) (hgr2.block (w.heap.size) (show w.heap.size < wr.heap.size by omega) (fun e => by have := hTo _ e.symm; omega))).trans s0.1, (World.cell?_of_block (a := ⟨b2, o2 + ti, none⟩) (hgr2.block b2 (show b2 < wr.heap.size by omega) (fun e => by have := hTo _ e.symm; omega))).trans s0.2⟩
        have hR6 := Lib.hid (hRd.addT (b := bv) hgr2 (by rw [List.map_append, HTV.out]; exact hown2))
        have HME7 := Lib.hid (hRd.keepT (v' := .slice Av2 nv2 cv2) hgr2 (by decide) HME.out)
        have hO6 : w6.heap[gO]? = some (.cells #[S M.sg, .slice AN R.length cN, .slice AT TV.length cT] 25 (0, 0)) := (hgr2.block (gO) (show gO < wr.heap.size by omega) (fun e => by have := hTo _ e.symm; omega)).trans hRd.out
        obtain ⟨_, _, g2, _, _, g5⟩ := three_atL hO6
        try simp only [Act.put, List.getElem_toArray, List.getElem_cons_zero, List.getElem_cons_succ, List.setIfInBounds_toArray, List.set_cons_zero, List.set_cons_succ]
        refine hK.out _ _ s2 (fun hH7 => ?_)
        clear hK K
        try simp only [Act.put, List.getElem_toArray, List.getElem_cons_zero, List.getElem_cons_succ, List.setIfInBounds_toArray, List.set_cons_zero, List.set_cons_succ]
        refine wpAnyH_take (i := 9) (v := ?_) rfl (by kernel_rfl) (by kernel_rfl) (by kernel_rfl) (fun _ _ _ h => h) (Or.inl ⟨by rfl, ?_⟩) hH7 ?_
        rotate_left
        · intro W hSw; (try dsimp only at hSw); go_simp; try with_reducible rfl
        try simp only [Act.put, List.getElem_toArray, List.getElem_cons_zero, List.getElem_cons_succ, List.setIfInBounds_toArray, List.set_cons_zero, List.set_cons_succ]
        refine wpAnyH_ready (rs := [10]) (by kernel_rfl) (by simp) (AllReadyH.cons rfl (fun K hK => ?_) AllReadyH.nil)
        go_simp
        change K _ (w6.setCell ⟨gO, 2, none⟩ (.slice Av2 nv2 cv2))
        have s3 : (w6.setCell ⟨gO, 2, none⟩ (.slice Av2 nv2 cv2)).cell? ⟨w.heap.size, 2, none⟩ = some (.slice (some ⟨b2, o2, none⟩) m c2) ∧ (w6.setCell ⟨gO, 2, none⟩ (.slice Av2 nv2 cv2)).cell? ⟨b2, o2 + ti, none⟩ = some (.bool bv) := ⟨(World.cell?_setCell_far w6 ⟨gO, 2, none⟩ ⟨w.heap.size, 2, none⟩ _ (by show gO ≠ w.heap.size; omega)).trans s2.1, (World.cell?_setCell_far w6 ⟨gO, 2, none⟩ ⟨b2, o2 + ti, none⟩ _ (by show gO ≠ b2; omega)).trans s2.2⟩
        refine hK.out _ _ s3 (fun hH8 => ?_)
        clear hK K
        try simp only [Act.put, List.getElem_toArray, List.getElem_cons_zero, List.getElem_cons_succ, List.setIfInBounds_toArray, List.set_cons_zero, List.set_cons_succ]
        refine wpAnyH_done (by kernel_rfl) ?_ _
        generalize w6.setCell ⟨gO, 2, none⟩ (.slice Av2 nv2 cv2) = w7 at *
        clear s0 s1 s2 s3 d2e d2e2 hO6 g2 g5 hown2 hgr2 hloc2 hTo hRd hlt a2 ct d2 HR 
        have HS0 : Hid (SmR M.sg w3 gO D R (Tk ++ [bv]) (.slice AN R.length cN) (.slice Av2 nv2 cv2) (.slice (some ⟨bm, om, none⟩) mt.length cM) (.slice none 0 0) (nats (rowG M M.eqB ti mt 0).1) (rowG M M.eqB ti mt 0).2 w7) := Lib.hid ⟨hR6.out.weak fun b _ h => ⟨by simp [Value.ownBlock], h⟩, HME7.out, World.ownsRow_nil _ _ _ _, fun k _ => by simp [Value.ownBlock]⟩
        clear hR6 HME7
        go_wp2_with fail
        go_loopg [5, 8, 9] M.s (fun f2 mv rv cv wx => ∃ d : Nat, d + f2 = M.s ∧ cv = .int .i64 (d : Int) ∧ Hid (SmR M.sg w3 gO D R (Tk ++ [bv]) (.slice AN R.length cN) (.slice Av2 nv2 cv2) mv rv (nats (rowG M M.eqB ti mt d).1) (rowG M M.eqB ti mt d).2 wx))
        case atStart => exact ⟨0, by omega, rfl, HS0⟩
        case round =>
          clear HS0
          obtain ⟨d, hdf, rfl, HX⟩ := hrel
          obtain ⟨⟨⟨a0, a1, a2⟩, hbw⟩, hres⟩ := HCX.out wr HX.out.out.low
          by_cases hld : d < M.s
          · obtain ⟨f2, rfl⟩ : ∃ f, gk = f + 1 := ⟨gk - 1, by omega⟩
            have q1 : (d : Int) < (M.s : Int) := by omega
            have q2 : IntKind.i64.wrap ((d : Int) + 1) = (d : Int) + 1 := i64_in _ (by have := HO.out.few; omega)
            have hne : ¬ M.s = 0 := by omega
            obtain ⟨_, b4, o4, cc4, u1, u2⟩ := HRX.out wr HX.out.out.low ti HTIM.out
            rw [if_neg hne] at u1
            have u5 := u2 d hld
            have hst : M.st ti d < m := by rw [← HN.out]; exact HO.out.st_lt HIL.out hld
            have HG1 : Hid (rowG M M.eqB ti mt (d + 1) = (if idxE M.eqB (rowG M M.eqB ti mt d).1 (M.st ti d) = (rowG M M.eqB ti mt d).1.length then (rowG M M.eqB ti mt d).1 ++ [M.st ti d] else (rowG M M.eqB ti mt d).1, (rowG M M.eqB ti mt d).2 ++ [(idxE M.eqB (rowG M M.eqB ti mt d).1 (M.st ti d) : Int)])) := Lib.hid rfl
            obtain ⟨hgm, _, hgl, _⟩ := rowG_ok HO.out HIL.out HMO.out d (by omega)
            have HGM := Lib.hid hgm
            have HGL : Hid ((rowG M M.eqB ti mt d).2.length ≤ 1000 ∧ (rowG M M.eqB ti mt d).1.length ≤ m) := Lib.hid ⟨by rw [hgl]; have := HO.out.few; omega, by have h1 := hgm.len; have h2 := HN.out; omega⟩
            have HST := Lib.hid hst
            have HTBr := Lib.hid (HTB.out wr HX.out.out.low)
            have HDS : Hid (D ≤ wr.heap.size) := Lib.hid (by have := HX.out.out.gt; have := HD.out; omega)
            generalize M.st ti d = t at *
            generalize rowG M M.eqB ti mt d = rg at *
            obtain ⟨met, row⟩ := rg
            simp only [] at *
            obtain ⟨Am, cm, hmv, _⟩ := own_shape HX.out.me
            rw [List.length_map, List.length_map] at hmv
            subst hmv
            have HMI := Lib.hid (ints_own2 HX.out.me)
            clear hne u2 hgm hgl hbw hres
            go_wp2_with fail
            clear u1 u5 a0 a1 a2
            have HW : Hid (∃ W : World, W = wr) := Lib.hid ⟨_, rfl⟩
            generalize hwx : wr = wx at *
            go_loopg [11] met.length (fun f3 nv wy => ∃ q : Nat, q + f3 = met.length ∧ nv = .int .i64 (q : Int) ∧ wx = wy ∧ Hid (∀ j, j < q → M.eqB (met.getD j 0) t = false))
            case atStart => exact ⟨0, by omega, rfl, rfl, Lib.hid fun j hj => absurd hj (by omega)⟩
            case round =>
              obtain ⟨q, hqf, rfl, rfl, HQN⟩ := hrel
              by_cases hql : q < met.length
              · obtain ⟨f3, rfl⟩ : ∃ f, gk = f + 1 := ⟨gk - 1, by omega⟩
                have s1 : (q : Int) < (met.length : Int) := by omega
                have s2 : IntKind.i64.wrap ((q : Int) + 1) = (q : Int) + 1 := i64_in _ (by have := HGL.out.2; omega)
                have s3 : ((q : Int) == (met.length : Int)) = false := by simp; omega
                have s4 : (q == met.length) = false := by simp; omega
                obtain ⟨bmm, omm, hAm, _, cq⟩ := HMI.out.at_ (k := q) hql
                subst hAm
                rw [gi_nats hql] at cq
                have hmq : met.getD q 0 < m := by rw [← HN.out]; exact HGM.out.at_lt HO.out q
                have t2 := HTBr.out.cell_top hmq
                have t3 := HTBr.out.cell_at hmq HST.out
                have s5 : (met.getD q 0 : Int) < (m : Int) := by omega
                have s6 : (t : Int) < (m : Int) := by have := HST.out; omega
                have hfin : bb T (met.getD q 0) t = !M.eqB (met.getD q 0) t := HTLD.out.fin HO.out (by rw [HN.out]; exact HQ.out) (by rw [HN.out]; exact hmq) (by rw [HN.out]; exact HST.out)
                rw [hfin] at t3
                by_cases he : M.eqB (met.getD q 0) t = true
                · rw [he, Bool.not_true] at t3
                  have hidx := idx_some HQN.out hql he
                  rw [hidx, if_neg (by omega)] at HG1
                  have HRWL : Hid ((row.map (Value.int .i64)).length ≤ 1000000) := Lib.hid (by rw [List.length_map]; have := HGL.out.1; omega)
                  generalize met.getD q 0 = mq at *
                  clear he hidx hfin HQN
                  go_wp2_with (at_builtin; refine wpList_append1g rfl (.tmp 79) (.tmp 81) _ rfl 3 i0 _ Tryd.underlying44 hi0 hz0 hz1 (by omega) rfl D u8 (row.map (Value.int .i64)) (.int .i64 (q : Int)) rfl rfl rfl HX.out.rw_ HRWL.out HDS.out ?_; intro v9 w9 hown9 hgr9 hloc9)
                  have HX9 := Lib.hid (HX.out.addR hgr9 hloc9 hown9)
                  clear hown9 hgr9 hloc9 HX HMI cq t2 t3
                  go_roundg f2
                  case measure => omega
                  case rel => exact ⟨d + 1, by omega, by simp, by rw [HG1.out]; exact HX9⟩
                · have he' : M.eqB (met.getD q 0) t = false := by simpa using he
                  rw [he', Bool.not_false] at t3
                  have HQ2 : Hid (∀ j, j < q + 1 → M.eqB (met.getD j 0) t = false) := Lib.hid fun j hj => by
                    rcases Nat.lt_or_ge j q with hl | hl
                    · exact HQN.out j hl
                    · obtain rfl : j = q := by omega
                      exact he'
                  generalize met.getD q 0 = mq at *
                  clear he he' hfin HQN
                  go_wp2_with fail
                  go_roundg f3
                  case measure => omega
                  case rel => exact ⟨q + 1, by omega, by simp, rfl, HQ2⟩
              · obtain hqe : q = met.length := by omega
                have hidx := idx_none (E := M.eqB) (met := met) (t := t) (fun j hj => HQN.out j (by omega))
                rw [hidx, if_pos rfl] at HG1
                have HRWL : Hid ((row.map (Value.int .i64)).length ≤ 1000000 ∧ ((nats met).map (Value.int .i64)).length ≤ 1000000) := Lib.hid ⟨by rw [List.length_map]; have := HGL.out.1; omega, by rw [List.length_map, List.length_map]; have := HGL.out.2; omega⟩
                have s3 : ((met.length : Int) == (met.length : Int)) = true := by simp
                have s1 : ¬ (met.length : Int) < (met.length : Int) := by omega
                clear hidx HQN
                subst hqe
                go_wp2_with (first
                  | (at_builtin; refine wpList_append1g rfl (.tmp 75) (.tmp 77) _ rfl 3 i0 _ Tryd.underlying44 hi0 hz0 hz1 (by omega) rfl D _ ((nats met).map (Value.int .i64)) (.int .i64 (t : Int)) rfl rfl rfl HX.out.me HRWL.out.2 HDS.out ?_; intro v9 w9 hown9 hgr9 hloc9)
                  | (at_builtin; refine wpList_append1g rfl (.tmp 79) (.tmp 81) _ rfl 3 i0 _ Tryd.underlying44 hi0 hz0 hz1 (by omega) rfl D u8 (row.map (Value.int .i64)) (.int .i64 (met.length : Int)) rfl rfl rfl (HX.out.addM hgr9 hloc9 hown9).rw_ HRWL.out.1 (by have := HDS.out; have := hgr9.size; omega) ?_; intro v10 w10 hown10 hgr10 hloc10))
                have HX9 := Lib.hid ((HX.out.addM hgr9 hloc9 hown9).addR hgr10 hloc10 hown10)
                clear hown9 hgr9 hloc9 hown10 hgr10 hloc10 HX HMI
                go_roundg f2
                case measure => omega
                case rel => exact ⟨d + 1, by omega, by simp, by rw [HG1.out]; exact (by simpa [nats] using HX9)⟩
          · obtain rfl : M.s = d := by omega
            have q1 : ¬ (M.s : Int) < (M.s : Int) := by omega
            obtain ⟨Ar, cq, hvr, _⟩ := own_shape HX.out.rw_
            obtain ⟨_, _, hgl, _⟩ := rowG_ok HO.out HIL.out HMO.out M.s (Nat.le_refl _)
            rw [List.length_map, hgl] at hvr
            subst hvr
            have HW := Lib.hid (HX.out.out.weak (ok' := fun b => u5.ownBlock ≠ some b) (fun b _ h => h.2))
            have HMEE := Lib.hid HX.out.me
            have HROE := Lib.hid HX.out.rw_
            have HNEE := Lib.hid HX.out.ne
            generalize rowG M M.eqB ti mt M.s = rg at *
            obtain ⟨met, row⟩ := rg
            simp only [] at *
            obtain ⟨KC, hk1, hk2, hk3⟩ := HW.out.rows
            have HK1 := Lib.hid hk1; have HK2 := Lib.hid hk2; have HK3 := Lib.hid hk3
            obtain ⟨d0, d1, d2, f0, f1, f2'⟩ := three_atL HW.out.out
            have HDS : Hid (D ≤ wr.heap.size ∧ gO < wr.heap.size) := Lib.hid ⟨by have := HW.out.gt; have := HD.out; omega, HW.out.gt⟩
            clear hk1 hk2 hk3 hgl HX hbw hres
            go_wp2_with (at_builtin; refine wpList_append1g rfl (.tmp 84) (.tmp 86) _ rfl 44 i1 _ Tryd.underlying22 hi1 hy0 hy1 (by omega) rfl D (.slice AN R.length cN) KC (.slice Ar M.s cq) rfl rfl rfl HK2.out (by have := HK1.out; have := HLEN.out.1; omega) HDS.out.1 ?_; intro v11 w11 hown11 hgr11 hloc11; obtain ⟨A11, n11, c11, e11⟩ : ∃ A n c, v11 = .slice A n c := (by obtain ⟨A', c', e, _⟩ := own_shape hown11; exact ⟨A', _, c', e⟩); subst e11; have hOb : w11.heap[gO]? = wr.heap[gO]? := hgr11.block _ HDS.out.2 (fun e => by have h1 := HW.out.rows.lt e.symm; have := HW.out.lt; omega); have s5 : w11.cell? ⟨gO, 1, none⟩ = some (.slice AN R.length cN) := (World.cell?_of_block (a := ⟨gO, 1, none⟩) hOb).trans d1; have s6 : w11.frozen? ⟨gO, 1, none⟩ = false := (World.frozen?_of_block (a := ⟨gO, 1, none⟩) hOb).trans f1)
            have HNX := Lib.hid (HW.out.addN (K := row) HK1.out HK2.out HK3.out HROE.out (fun k hk e => HNEE.out k e hk) hgr11 hown11)
            have HMX := Lib.hid (HW.out.keepN (v' := .slice A11 n11 c11) hgr11 (by decide) HMEE.out)
            clear hown11 hgr11 hloc11 hOb s5 s6 d0 d1 d2 f0 f1 f2' a0 a1 a2 HW HDS HK1 HK2 HK3 HMEE HROE HNEE
            go_roundg f
            case measure => omega
            case rel => exact ⟨a + 1, _, _, by omega, by simp, by rw [HSTP.out]; exact HNX, by rw [HSTP.out]; exact HMX⟩
    · have hend := bfs_end HO.out (Nat.le_of_not_lt ha)
      have HEN : Hid (M.least = ⟨M.sg, (bfs M M.eqB a).rows, (bfs M M.eqB a).tks⟩) := Lib.hid (by rw [hend]; rfl)
      have hrl : (bfs M M.eqB a).rows.length = M.least.n := by rw [HEN.out]
      have htl : (bfs M M.eqB a).tks.length = M.least.n := by rw [HEN.out]; have h1 := hok.rl; have h2 := hok.tl; show _ = (bfs M M.eqB a).rows.length; omega
      have hx := HR.out
      obtain ⟨AN, cN, hvN⟩ := hx.rows.shape
      obtain ⟨AT, cT, hvT, _⟩ := own_shape hx.tks
      rw [List.length_map] at hvT
      rw [hrl] at hvN
      rw [htl] at hvT
      subst hvN hvT hmv
      have p1 : ¬ (a : Int) < ((bfs M M.eqB a).met.length : Int) := by omega
      have HTN := Lib.hid (And.intro hrl htl)
      generalize (bfs M M.eqB a).rows = R at *
      generalize (bfs M M.eqB a).tks = Tk at *
      generalize (bfs M M.eqB a).met.length = ml at *
      obtain ⟨d0, d1, d2, _, _, _⟩ := three_atL hx.out
      have HRES := Lib.hid hres
      obtain ⟨r0, r1, r2, g0, g1, g2⟩ := three_atL hres
      have HX := Lib.hid hx
      have HFIN := Lib.hid hbw
      have hgr := HGO.out.2
      subst hgr
      clear hend hok hx hrl htl HR HME hlow hbw hres ha
      go_wp2_with fail
      refine bodyPost_ret (res_cell1 rfl _ _ (w.heap.size + 1) 25 _ (0, 0) _ rfl (set3L HRES.out) Tryd.underlying25 rfl (by kernel_rfl)) rfl ?_
      have hgo := HGO.out.1
      have hd := HX.out.lt
      have HGR := ((grown_set wr (w.heap.size + 1) 0 (S M.sg)).trans (grown_set (wr.setCell ⟨w.heap.size + 1, 0, none⟩ (S M.sg)) (w.heap.size + 1) 1 (.slice AN M.least.n cN))).trans (grown_set ((wr.setCell ⟨w.heap.size + 1, 0, none⟩ (S M.sg)).setCell ⟨w.heap.size + 1, 1, none⟩ (.slice AN M.least.n cN)) (w.heap.size + 1) 2 (.slice AT M.least.n cT))
      have hKY := HX.out.rows.grown HGR (fun k hk hd => by injection hk with hk; omega) (fun k cur hk hd => by injection hk with hk; omega)
      have hTO := own_kept HX.out.tks HGR (fun k hk e => by injection e with e; have := own_lt HX.out.tks hk; omega)
      have hfin := HFIN.out
      refine ⟨⟨AN, cN, AT, ⟨cT, rfl⟩, fun W hW => ?_⟩, ((hfin.setCell (p := ⟨w.heap.size + 1, 0, none⟩) (by show w.heap.size ≤ w.heap.size + 1; omega) _).setCell (p := ⟨w.heap.size + 1, 1, none⟩) (by show w.heap.size ≤ w.heap.size + 1; omega) _).setCell (p := ⟨w.heap.size + 1, 2, none⟩) (by show w.heap.size ≤ w.heap.size + 1; omega) _⟩
      have e1 : M.least.nx = R := by rw [HEN.out]
      have e2 : M.least.tk = Tk := by rw [HEN.out]
      have hD : w.heap.size ≤ D := by omega
      exact ⟨by rw [e1]; exact (hKY.agree fun k hk hl => hW k (by omega) hl).rows, by rw [e2]; exact bls_of_own (T := Tk) (own_agree hTO fun k hk hl => hW k (by omega) hl) (by rw [HTN.out.2])⟩
end Go.Proofs.YtfglajddibjnjaaDoor
