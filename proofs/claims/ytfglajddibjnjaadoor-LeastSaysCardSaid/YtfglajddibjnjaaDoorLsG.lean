/- package least's Of, at a machine that nothing is wrong with. No condition. -/
import Derived.Test.YtfglajddibjnjaaDoorLsJ
namespace Go.Proofs.YtfglajddibjnjaaDoor
open Go.RowKit IntWalk Go.Maps
set_option linter.unusedSimpArgs false
attribute [local go_sem] byte_at str_app
attribute [local go_sem ↓] Go.wp_at_zero Go.wp_at_succ

theorem bls_of_own {w : World} {D : Nat} {A : Option Addr} {n c : Nat} {T : List Bool} (h : w.ownsRow D 4 1 (.slice A n c) (T.map Value.bool).length (T.map Value.bool)) (hn : n = T.length) : Bls w w.heap.size A n T := by
  refine ⟨hn.symm, fun hp => ?_⟩
  rcases h.2 with ⟨e, h0⟩ | ⟨g, cap, cur, e, hg, hh, _, _, _, htake⟩
  · rw [List.length_map] at h0; omega
  · injection e with e1 e2 e3
    subst e1
    refine ⟨g, 0, rfl, (Array.getElem?_eq_some_iff.1 hh).1, fun j hj => ?_⟩
    have := h.cells (g := g) rfl j (.bool (bo T j)) (by rw [List.getElem?_map]; unfold bo; rw [List.getElem?_eq_getElem (by omega)]; rfl)
    rw [Nat.zero_add]
    rwa [Addr.add_lit, Nat.zero_add] at this

set_option maxRecDepth 100000 in
set_option maxHeartbeats 8000000 in
theorem of_ok (M : Mc) (hMo : M.Ok) (A A2 : Option Addr) (n c m c2 B : Nat) (w : World) (hM : MacW w B A n A2 m M) (hB : B ≤ w.heap.size) :
    Calls Tryd.prog 8 #[mcv M.sg A n c A2 m c2] w fun e w' => (∃ A' k' A2' k2', e = .returned (.tuple #[mcv M.sg A' M.least.n k' A2' M.least.n k2', .nilIface]) ∧ MacW w' w'.heap.size A' M.least.n A2' M.least.n M.least) ∧ Below w.heap.size w w' := by
  have hmm := @run_makeMap Tryd.prog
  obtain ⟨i0, hi0, hz0, hz1, hz2⟩ := info_parts info_intL
  obtain ⟨i1, hi1, hy0, hy1, hy2⟩ := info_parts info_rowsL
  obtain ⟨i2, hi2, hx0, hx1, hx2⟩ := info_parts info_boolL
  have hn := hM.n_eq
  have hm := hM.m_eq
  obtain rfl : m = n := by have := hMo.tak; omega
  have hmk := fun W => mk_ints (P := Tryd.prog) Tryd.underlying44 hi0 hz0 hz1 rfl (by omega) M.s (by have := hMo.few; omega) W
  have hm1000 : m ≤ 1000 := by have := hMo.small; omega
  have hm0 : 0 < m := by have := hMo.pos; omega
  have hs12 : M.s ≤ 12 := hMo.few
  obtain ⟨c0, c1, c2'⟩ := mac_cells w M.sg A m c A2 m c2 25
  generalize hw1 : w.alloc (.cells #[S M.sg, .slice A m c, .slice A2 m c2] 25) = w1 at *
  have HZ1 : w1.heap.size = w.heap.size + 1 := by rw [← hw1]; simp
  have HB1 : Below w.heap.size w w1 := by rw [← hw1]; exact (Below.refl _ w).alloc (Nat.le_refl _) _
  have HB2 := Lib.hid (HB1.alloc (by omega) (.cells #[S [], .slice none 0 0, .slice none 0 0] 25))
  have HR2 : Hid ((w1.alloc (.cells #[S [], .slice none 0 0, .slice none 0 0] 25)).heap[w1.heap.size]? = some (.cells #[S [], .slice none 0 0, .slice none 0 0] 25 (0, 0))) := Lib.hid (heap_alloc_new w1 _)
  have k0 : (w1.alloc (.cells #[S [], .slice none 0 0, .slice none 0 0] 25)).cell? ⟨w.heap.size, 0, none⟩ = some (S M.sg) := (World.cell?_alloc_lt w1 _ ⟨w.heap.size, 0, none⟩ (show w.heap.size < w1.heap.size by omega)).trans c0
  have k1 : (w1.alloc (.cells #[S [], .slice none 0 0, .slice none 0 0] 25)).cell? ⟨w.heap.size, 1, none⟩ = some (.slice A m c) := (World.cell?_alloc_lt w1 _ ⟨w.heap.size, 1, none⟩ (show w.heap.size < w1.heap.size by omega)).trans c1
  have k2 : (w1.alloc (.cells #[S [], .slice none 0 0, .slice none 0 0] 25)).cell? ⟨w.heap.size, 2, none⟩ = some (.slice A2 m c2) := (World.cell?_alloc_lt w1 _ ⟨w.heap.size, 2, none⟩ (show w.heap.size < w1.heap.size by omega)).trans c2'
  have HM2 := Lib.hid (hM.below (HB2.out.mono hB))
  have HB := Lib.hid hB
  have HCK := Lib.hid (mcheck_any M A A2 m c m c2 B (w1.alloc (.cells #[S [], .slice none 0 0, .slice none 0 0] 25)) HM2.out (by have := HB2.out.size; omega))
  rw [Mc.wrong_zero.2 hMo, show errV 0 = .nilIface from rfl] at HCK
  have HG := Lib.hid HZ1
  have HO := Lib.hid hMo
  have HN := Lib.hid hn
  clear hM hB hn hm hMo c0 c1 c2' HB1 HZ1
  generalize hw2 : w1.alloc (.cells #[S [], .slice none 0 0, .slice none 0 0] 25) = w2 at *
  have HKC := Lib.hid (And.intro k0 (And.intro k1 k2))
  have HS2 : Hid (w2.heap.size = w.heap.size + 2) := Lib.hid (by rw [← hw2]; have := HG.out; simp; omega)
  go_enter Tryd.func8, Tryd.ntmps8
  go_wp2_with fail
  clear hw1 hw2 k0 k1 k2
  refine HCK.out.mono ?_
  rintro e w3 ⟨rfl, hb3⟩
  have HB3 := Lib.hid hb3
  clear hb3 HCK
  have cell3 : ∀ W, Below w2.heap.size w2 W → W.cell? ⟨w.heap.size, 0, none⟩ = some (S M.sg) ∧ W.cell? ⟨w.heap.size, 1, none⟩ = some (.slice A m c) ∧ W.cell? ⟨w.heap.size, 2, none⟩ = some (.slice A2 m c2) := fun W hb =>
    have hs := HS2.out
    ⟨(hb.cell (p := ⟨w.heap.size, 0, none⟩) (by show w.heap.size < w2.heap.size; omega)).trans HKC.out.1, (hb.cell (p := ⟨w.heap.size, 1, none⟩) (by show w.heap.size < w2.heap.size; omega)).trans HKC.out.2.1, (hb.cell (p := ⟨w.heap.size, 2, none⟩) (by show w.heap.size < w2.heap.size; omega)).trans HKC.out.2.2⟩
  have HC3 := Lib.hid cell3
  clear cell3
  obtain ⟨a0, a1, a2⟩ := HC3.out w3 HB3.out
  go_wp2_with fail
  have hBz : B ≤ w2.heap.size := by have := HB.out; have := HS2.out; omega
  refine (classes_any M HO.out A A2 m c m c2 B w3 (HM2.out.below (HB3.out.mono hBz)) (Nat.le_trans hBz HB3.out.size)).mono ?_
  rintro e w4 ⟨⟨gC, r, rfl, hKC4, hmany⟩, hb4⟩
  have HB4 := Lib.hid (HB3.out.trans (hb4.mono HB3.out.size))
  have HKC4 := Lib.hid hKC4
  have HCE : Hid (CEq M (M.classR (r + 2))) := Lib.hid (fun i k hi hk => Mc.sm_eqv HO.out hmany hi hk)
  have HRG := Lib.hid (fun i (hi : i < M.n) => classR_rng HO.out (r + 1) hi)
  have HCL := Lib.hid (classR_len M (r + 2))
  clear hKC4 hmany hb4 a0 a1 a2 HB3
  generalize M.classR (r + 2) = C at *
  obtain ⟨a0, a1, a2⟩ := HC3.out w4 HB4.out
  have e0 : ∀ o, (w4.alloc o).cell? ⟨gC, 0, none⟩ = some (.int .i64 (gi C 0)) := fun o => row_cellL (HKC4.out.alloc o) (by rw [HCL.out]; exact HO.out.pos)
  have e1 : ∀ o o2, ((w4.alloc o).alloc o2).cell? ⟨gC, 0, none⟩ = some (.int .i64 (gi C 0)) := fun o o2 => row_cellL ((HKC4.out.alloc o).alloc o2) (by rw [HCL.out]; exact HO.out.pos)
  have hwf0 : (Lit.int .i64 (gi C 0)).wf = true := wf_small (by have := HRG.out 0 HO.out.pos; omega)
  have q1 : (0 : Int) < (m : Int) := by omega
  obtain ⟨wa, hwa⟩ : ∃ wa, wa = (w4.alloc (.cells #[S M.sg, .slice none 0 0, .slice none 0 0] 25)).alloc (.map #[] 0) := ⟨_, rfl⟩
  have hown0 : ((w4.alloc (.cells #[S M.sg, .slice none 0 0, .slice none 0 0] 25)).alloc (.map #[] 0)).ownsMap Tryd.prog 3 PE (w4.heap.size + 1) 0 (.map []) := by
    have := World.ownsMap_made (w4.alloc (.cells #[S M.sg, .slice none 0 0, .slice none 0 0] 25)) Tryd.prog 3 PE
    rwa [World.size_alloc] at this
  have HOUT0 : Hid (((w4.alloc (.cells #[S M.sg, .slice none 0 0, .slice none 0 0] 25)).alloc (.map #[] 0)).heap[w4.heap.size]? = some (.cells #[S M.sg, .slice none 0 0, .slice none 0 0] 25 (0, 0))) := Lib.hid (((World.grownBy_alloc (w4.alloc (.cells #[S M.sg, .slice none 0 0, .slice none 0 0] 25)) (.map #[] 0) none).block w4.heap.size (by simp) (by simp)).trans (heap_alloc_new w4 _))
  have HB0 := Lib.hid (((Below.refl w4.heap.size w4).alloc (Nat.le_refl _) (.cells #[S M.sg, .slice none 0 0, .slice none 0 0] 25)).alloc (by simp) (.map #[] 0))
  have HS0 : Hid (((w4.alloc (.cells #[S M.sg, .slice none 0 0, .slice none 0 0] 25)).alloc (.map #[] 0)).heap.size = w4.heap.size + 2) := Lib.hid (by simp)
  clear hwa wa
  have HOW0 := Lib.hid hown0
  clear hown0
  go_wp2_with (refine wpList_insert_own _ rfl _ _ _ 52 rfl 3 3 lawI Tryd.underlying52 PE (w4.heap.size + 1) 0 _ rfl HOW0.out (by decide) _ _ _ rfl rfl (keyOf_int_mk Tryd.underlying3 hwf0) _ [] (plainElem_int Tryd.underlying3 (by decide)) ?_; intro w5 hown5 hgr5)
  have hst : OfR M C w4 w4.heap.size (w4.heap.size + 2) 0 [0] [] [] (.slice (some ⟨w5.heap.size, 0, none⟩) 1 1) (.slice none 0 0) (.slice none 0 0) (fun b => (Value.slice (some ⟨w5.heap.size, 0, none⟩) 1 1).ownBlock ≠ some b) (w5.alloc (.cells #[.int .i64 0] 3)) := by
    have hz := HS0.out
    have h5 : w4.heap.size + 2 ≤ w5.heap.size := by rw [← HS0.out]; exact hgr5.size
    have hlow := HB0.out.grown hgr5 (by show w4.heap.size ≤ _; rw [HS0.out]; omega) (fun k hk => by injection hk with hk; omega)
    refine ⟨⟨w5.heap.size, 0, 1, #[.int .i64 0], rfl, by omega, heap_alloc_new w5 _, Nat.le_refl _, by simp, fun j hj => ?_⟩, ?_, KZ.nil _ _ _, World.ownsRow_nil _ _ _ _, ?_, hlow.alloc (by omega) _, fun b hb h => h hb, rfl⟩
    · obtain rfl : j = 0 := by simpa using hj
      rfl
    · exact ((World.grownBy_alloc w5 _ none).block w4.heap.size (by omega) (by simp)).trans ((hgr5.block w4.heap.size (by show w4.heap.size < ((w4.alloc (.cells #[S M.sg, .slice none 0 0, .slice none 0 0] 25)).alloc (.map #[] 0)).heap.size; rw [HS0.out]; omega) (by simp)).trans HOUT0.out)
    · exact hown5.alloc _
  have HST := Lib.hid hst
  have HCw : Hid (Blk w4 gC 3 (C.map (Value.int .i64))) := HKC4
  have HCg : Hid (gC < w4.heap.size) := Lib.hid HKC4.out.lt
  have HBD := Lib.hid hBz
  clear hst hown5 hgr5 HB0 HOUT0 HOW0 HS0 hwf0 e0 e1 a0 a1 a2 HKC4 hBz
  generalize hDD : w4.heap.size + 2 = D at *
  have HDD := Lib.hid hDD
  clear hDD
  go_loopg [8] m (fun f qv wr => ∃ (a : Nat) (vN vT : Value), a + f = m ∧ Hid (OfR M C w4 w4.heap.size D a (bfs M M.eqB a).met (bfs M M.eqB a).rows (bfs M M.eqB a).tks qv vN vT (fun b => qv.ownBlock ≠ some b) wr))
  case atStart => exact ⟨0, _, _, by omega, HST⟩
  case round =>
    clear HST
    obtain ⟨a, vN, vT, haf, HR⟩ := hrel
    have hok := bfs_ok HO.out a
    by_cases ha : a < (bfs M M.eqB a).met.length
    · have hle := hok.met.len
      obtain ⟨f, rfl⟩ : ∃ f, gk = f + 1 := ⟨gk - 1, by have := HN.out; omega⟩
      have HOK := Lib.hid hok
      have HSTP : Hid (bfs M M.eqB (a + 1) = ⟨(rowG M M.eqB ((bfs M M.eqB a).met.getD a 0) (bfs M M.eqB a).met M.s).1, (bfs M M.eqB a).rows ++ [(rowG M M.eqB ((bfs M M.eqB a).met.getD a 0) (bfs M M.eqB a).met M.s).2], (bfs M M.eqB a).tks ++ [bo M.tk ((bfs M M.eqB a).met.getD a 0)]⟩) := Lib.hid (by
        rw [show bfs M M.eqB (a + 1) = if a < (bfs M M.eqB a).met.length then ⟨(rowG M M.eqB ((bfs M M.eqB a).met.getD a 0) (bfs M M.eqB a).met M.s).1, (bfs M M.eqB a).rows ++ [(rowG M M.eqB ((bfs M M.eqB a).met.getD a 0) (bfs M M.eqB a).met M.s).2], (bfs M M.eqB a).tks ++ [bo M.tk ((bfs M M.eqB a).met.getD a 0)]⟩ else bfs M M.eqB a from rfl, if_pos ha])
      have hil := hok.met.at_lt HO.out a
      have hdr : (bfs M M.eqB a).met.drop a = (bfs M M.eqB a).met.getD a 0 :: (bfs M M.eqB a).met.drop (a + 1) := by
        rw [List.drop_eq_getElem_cons ha, List.getD_eq_getElem?_getD, List.getElem?_eq_getElem ha]; rfl
      clear hok hle
      generalize hp : bfs M M.eqB a = p at *
      obtain ⟨met, rows, tks⟩ := p
      simp only [] at *
      generalize met.getD a 0 = i at *
      have hx := HR.out
      have hque := hx.que
      rw [hdr, List.map_cons] at hque
      generalize hxs : (met.drop (a + 1)).map (fun x : Nat => (x : Int)) = xs at *
      obtain ⟨gq, oq, cq, hqv, hq0⟩ := hque.head
      subst hqv
      obtain ⟨AT, cT, hvT, _⟩ := own_shape hx.tks
      subst hvT
      obtain ⟨AN, cN, hvN⟩ := hx.rows.shape
      subst hvN
      have HLOW := Lib.hid (HB4.out.trans (hx.low.mono (by have := HB4.out.size; omega)))
      obtain ⟨a0, a1, a2⟩ := HC3.out wr HLOW.out
      obtain ⟨d0, d1, d2, f0, f1, f2⟩ := three_atL hx.out
      have HMr := Lib.hid (HM2.out.below (HLOW.out.mono HBD.out))
      have him : i < m := by have := HN.out; omega
      obtain ⟨b2, o2, hA2, _, ct⟩ := HMr.out.tks.at_ him
      subst hA2
      have HTL : Hid ((tks.map Value.bool).length ≤ 1000) := Lib.hid (by rw [List.length_map]; have := HOK.out.tl; have := HOK.out.met.len; have := HN.out; simp only [] at *; omega)
      generalize hTV : tks.map Value.bool = TV at *
      have HTV := Lib.hid hTV
      clear hTV
      have HDR := Lib.hid hdr; have HXS := Lib.hid hxs; have HIL := Lib.hid hil; have HQ0 := Lib.hid hque
      have HA := Lib.hid ha
      have p1 : (0 : Int) < (xs.length : Int) + 1 := by omega
      have p2 : (i : Int) < (m : Int) := by omega
      have HTK := Lib.hid (show wr.ownsRow D 4 1 (.slice AT TV.length cT) TV.length TV by have h := hx.tks; rw [HTV.out] at h; exact h)
      have HRB := Lib.hid (show bo M.tk i = bo M.tk i from rfl)
      generalize hbv : bo M.tk i = bv at *
      have HBV := Lib.hid hbv
      clear hque hdr hxs hil hx hp ha hbv
      go_wp2_with fail
      have hRd := (HR.out.drewN 1 : OfR M C w4 w4.heap.size D a met rows tks _ _ _ _ wr.drew)
      have hgz := HB4.out.size
      have hs2 := HS2.out
      have hdd := HDD.out
      have hb2 : b2 < w4.heap.size := by have := ‹b2 < B›; have := HBD.out; omega
      have hwr : w4.heap.size + 2 ≤ wr.heap.size := by have := (hRd.que.lt (g := gq) rfl); have h2 : D ≤ gq ∧ gq < wr.heap.size := this; omega
      have s0 : wr.drew.cell? ⟨w.heap.size, 2, none⟩ = some (.slice (some ⟨b2, o2, none⟩) m c2) ∧ wr.drew.cell? ⟨b2, o2 + i, none⟩ = some (.bool bv) := ⟨a2, ct⟩
      have s1 : (wr.drew.alloc (.cells #[.bool bv] 4)).cell? ⟨w.heap.size, 2, none⟩ = some (.slice (some ⟨b2, o2, none⟩) m c2) ∧ (wr.drew.alloc (.cells #[.bool bv] 4)).cell? ⟨b2, o2 + i, none⟩ = some (.bool bv) := ⟨(World.cell?_alloc_lt wr.drew _ ⟨w.heap.size, 2, none⟩ (show w.heap.size < wr.heap.size by omega)).trans s0.1, (World.cell?_alloc_lt wr.drew _ ⟨b2, o2 + i, none⟩ (show b2 < wr.heap.size by omega)).trans s0.2⟩
      have d2e : (wr.drew.alloc (.cells #[.bool bv] 4)).cell? ⟨w4.heap.size, 2, none⟩ = some (.slice AT TV.length cT) := (World.cell?_alloc_lt wr.drew _ ⟨w4.heap.size, 2, none⟩ (show w4.heap.size < wr.heap.size by omega)).trans d2
      have d2e2 : (wr.alloc (.cells #[.bool bv] 4)).cell? ⟨w4.heap.size, 2, none⟩ = some (.slice AT TV.length cT) := d2e
      refine wp_region_held_drew (S := fun W => W.cell? ⟨w.heap.size, 2, none⟩ = some (.slice (some ⟨b2, o2, none⟩) m c2) ∧ W.cell? ⟨b2, o2 + i, none⟩ = some (.bool bv)) (by first | assumption | kernel_rfl | rfl) s0 (fun hH => ?_)
      refine wpAnyH_take (i := 0) (v := ?_) rfl (by kernel_rfl) (by kernel_rfl) (by kernel_rfl) (fun _ _ _ h => h) (Or.inl ⟨by rfl, ?_⟩) hH ?_
      rotate_left
      · intro W hSw; (try dsimp only at hSw); go_simp; try with_reducible rfl
      try simp only [Act.put, List.getElem_toArray, List.getElem_cons_zero, List.getElem_cons_succ, List.setIfInBounds_toArray, List.set_cons_zero, List.set_cons_succ]
      refine wpAnyH_take (i := 2) (v := ?_) rfl (by kernel_rfl) (by kernel_rfl) (by kernel_rfl) (fun _ _ _ h => h) (Or.inl ⟨by rfl, ?_⟩) hH ?_
      rotate_left
      · intro W hSw; (try dsimp only at hSw); go_simp; try with_reducible rfl
      try simp only [Act.put, List.getElem_toArray, List.getElem_cons_zero, List.getElem_cons_succ, List.setIfInBounds_toArray, List.set_cons_zero, List.set_cons_succ]
      refine wpAnyH_take (i := 3) (v := ?_) rfl (by kernel_rfl) (by kernel_rfl) (by kernel_rfl) (fun _ _ _ h => h) (Or.inl ⟨by rfl, ?_⟩) hH ?_
      rotate_left
      · intro W hSw; (try dsimp only at hSw); go_simp; try with_reducible rfl
      try simp only [Act.put, List.getElem_toArray, List.getElem_cons_zero, List.getElem_cons_succ, List.setIfInBounds_toArray, List.set_cons_zero, List.set_cons_succ]
      refine wpAnyH_take (i := 4) (v := ?_) rfl (by kernel_rfl) (by kernel_rfl) (by kernel_rfl) (fun _ _ _ h => h) (Or.inl ⟨by rfl, ?_⟩) hH ?_
      rotate_left
      · intro W hSw; (try dsimp only at hSw); go_simp; try with_reducible rfl
      try simp only [Act.put, List.getElem_toArray, List.getElem_cons_zero, List.getElem_cons_succ, List.setIfInBounds_toArray, List.set_cons_zero, List.set_cons_succ]
      refine wpAnyH_take (i := 5) (v := ?_) rfl (by kernel_rfl) (by kernel_rfl) (by kernel_rfl) (fun _ _ _ h => h) (Or.inl ⟨by rfl, ?_⟩) hH ?_
      rotate_left
      · intro W hSw; (try dsimp only at hSw); go_simp; try with_reducible rfl
      try simp only [Act.put, List.getElem_toArray, List.getElem_cons_zero, List.getElem_cons_succ, List.setIfInBounds_toArray, List.set_cons_zero, List.set_cons_succ]
      refine wpAnyH_take (i := 6) (v := ?_) rfl (by kernel_rfl) (by kernel_rfl) (by kernel_rfl) (fun _ _ _ h => h) (Or.inl ⟨by rfl, ?_⟩) hH ?_
      rotate_left
      · intro W hSw; (try dsimp only at hSw); go_simp; try with_reducible rfl
      try simp only [Act.put, List.getElem_toArray, List.getElem_cons_zero, List.getElem_cons_succ, List.setIfInBounds_toArray, List.set_cons_zero, List.set_cons_succ]
      refine wpAnyH_ready (rs := [1, 7]) (by kernel_rfl) (by simp) (AllReadyH.cons rfl (fun K hK => ?_) (AllReadyH.cons rfl (fun K hK => ?_) AllReadyH.nil))
      · go_simp
        change K _ wr.drew
        refine hK.out _ _ s0 (fun hH5 => ?_)
        clear hK K
        try simp only [Act.put, List.getElem_toArray, List.getElem_cons_zero, List.getElem_cons_succ, List.setIfInBounds_toArray, List.set_cons_zero, List.set_cons_succ]
        refine wpAnyH_ready (rs := [7]) (by kernel_rfl) (by simp) (AllReadyH.cons rfl (fun K hK => ?_) AllReadyH.nil)
        go_simp
        change K _ (wr.drew.alloc (.cells #[.bool bv] 4))
        refine hK.out _ _ s1 (fun hH5 => ?_)
        clear hK K
        try simp only [Act.put, List.getElem_toArray, List.getElem_cons_zero, List.getElem_cons_succ, List.setIfInBounds_toArray, List.set_cons_zero, List.set_cons_succ]
        refine wpAnyH_ready (rs := [8]) (by kernel_rfl) (by simp) (AllReadyH.cons rfl (fun K hK => ?_) AllReadyH.nil)
        rw [if_pos (by rfl)]
        refine wp_append1g (w := wr.drew) (.tmp 41) (.tmp 47) _ rfl 4 i2 _ Tryd.underlying23 hi2 hx0 hx1 (by omega) rfl D (.slice AT TV.length cT) _ (.bool bv) rfl rfl rfl HTK.out (by have := HTL.out; omega) (by show D ≤ wr.heap.size; omega) ?_
        intro v2 w6 hown2 hgr2 hloc2
        obtain ⟨Av2, nv2, cv2, ev2⟩ : ∃ A n c, v2 = .slice A n c := by obtain ⟨A', c', e, _⟩ := own_shape hown2; exact ⟨A', _, c', e⟩
        subst ev2
        have hTo : ∀ k, (Value.slice AT TV.length cT).ownBlock = some k → D ≤ k := fun k hk => own_lt HTK.out hk
        have s2 : w6.cell? ⟨w.heap.size, 2, none⟩ = some (.slice (some ⟨b2, o2, none⟩) m c2) ∧ w6.cell? ⟨b2, o2 + i, none⟩ = some (.bool bv) := ⟨(World.cell?_of_block (a := ⟨w.heap.size, 2, none⟩) (hgr2.block w.heap.size (show w.heap.size < wr.heap.size by omega) (fun e => by have := hTo _ e.symm; omega))).trans s0.1, (World.cell?_of_block (a := ⟨b2, o2 + i, none⟩) (hgr2.block b2 (show b2 < wr.heap.size by omega) (fun e => by have := hTo _ e.symm; omega))).trans s0.2⟩
        have hR6 := Lib.hid (hRd.addT (b := bv) hgr2 hloc2 (by rw [List.map_append, HTV.out]; exact hown2))
        have hO6 : w6.heap[w4.heap.size]? = some (.cells #[S M.sg, .slice AN rows.length cN, .slice AT TV.length cT] 25 (0, 0)) := (hgr2.block w4.heap.size (show w4.heap.size < wr.heap.size by omega) (fun e => by have := hTo _ e.symm; omega)).trans hRd.out
        obtain ⟨_, _, g2, _, _, g5⟩ := three_atL hO6
        try simp only [Act.put, List.getElem_toArray, List.getElem_cons_zero, List.getElem_cons_succ, List.setIfInBounds_toArray, List.set_cons_zero, List.set_cons_succ]
        refine hK.out _ _ s2 (fun hH7 => ?_)
        clear hK K
        try simp only [Act.put, List.getElem_toArray, List.getElem_cons_zero, List.getElem_cons_succ, List.setIfInBounds_toArray, List.set_cons_zero, List.set_cons_succ]
        refine wpAnyH_take (i := 9) (v := ?_) rfl (by kernel_rfl) (by kernel_rfl) (by kernel_rfl) (fun _ _ _ h => h) (Or.inl ⟨by rfl, ?_⟩) hH7 ?_
        rotate_left
        · intro W hSw; (try dsimp only at hSw); go_simp; try with_reducible rfl
        try simp only [Act.put, List.getElem_toArray, List.getElem_cons_zero, List.getElem_cons_succ, List.setIfInBounds_toArray, List.set_cons_zero, List.set_cons_succ]
        refine wpAnyH_ready (rs := [10]) (by kernel_rfl) (by simp) (AllReadyH.cons rfl (fun K hK => ?_) AllReadyH.nil)
        go_simp
        change K _ (w6.setCell ⟨w4.heap.size, 2, none⟩ (.slice Av2 nv2 cv2))
        have s3 : (w6.setCell ⟨w4.heap.size, 2, none⟩ (.slice Av2 nv2 cv2)).cell? ⟨w.heap.size, 2, none⟩ = some (.slice (some ⟨b2, o2, none⟩) m c2) ∧ (w6.setCell ⟨w4.heap.size, 2, none⟩ (.slice Av2 nv2 cv2)).cell? ⟨b2, o2 + i, none⟩ = some (.bool bv) := ⟨(World.cell?_setCell_far w6 ⟨w4.heap.size, 2, none⟩ ⟨w.heap.size, 2, none⟩ _ (by show w4.heap.size ≠ w.heap.size; omega)).trans s2.1, (World.cell?_setCell_far w6 ⟨w4.heap.size, 2, none⟩ ⟨b2, o2 + i, none⟩ _ (by show w4.heap.size ≠ b2; omega)).trans s2.2⟩
        refine hK.out _ _ s3 (fun hH8 => ?_)
        clear hK K
        try simp only [Act.put, List.getElem_toArray, List.getElem_cons_zero, List.getElem_cons_succ, List.setIfInBounds_toArray, List.set_cons_zero, List.set_cons_succ]
        refine wpAnyH_done (by kernel_rfl) ?_ _
        generalize w6.setCell ⟨w4.heap.size, 2, none⟩ (.slice Av2 nv2 cv2) = w7 at *
        clear s0 s1 s2 s3 d2e d2e2 hO6 g2 g5 hown2 hgr2 hloc2 hTo hRd a0 a1 a2 d0 d1 d2 f0 f1 f2 ct HR
        have HLOW7 := Lib.hid (HB4.out.trans (hR6.out.low.mono hgz))
        obtain ⟨a0, a1, a2⟩ := HC3.out w7 HLOW7.out
        have hz7 : w.heap.size < w7.heap.size := by have := HLOW7.out.size; omega
        have k1 : ∀ o, (w7.alloc o).cell? ⟨w.heap.size, 1, none⟩ = some (.slice A m c) := fun o => (World.cell?_alloc_lt w7 o ⟨w.heap.size, 1, none⟩ hz7).trans a1
        have HM7 := Lib.hid (HM2.out.below (HLOW7.out.mono HBD.out))
        obtain ⟨b3, o3, a3, m3, c3, hA3, _, cr, hI⟩ := HM7.out.rows.at_ him
        subst hA3
        obtain rfl : m3 = M.s := hI.1.symm.trans (HO.out.row i HIL.out)
        have k3 : ∀ o, (w7.alloc o).cell? ⟨b3, o3 + i, none⟩ = some (.slice a3 M.s c3) := fun o => (World.cell?_alloc_lt w7 o ⟨b3, o3 + i, none⟩ (World.block_lt_of_cell? w7 _ cr)).trans cr
        have HI := Lib.hid hI
        clear hI cr
        have hz7g : w4.heap.size + 2 ≤ w7.heap.size := by have h1 := (hR6.out.que.lt (g := gq) rfl); have h2 : D ≤ gq ∧ gq < w7.heap.size := h1; omega
        have hGQ7 : gq < w7.heap.size := (hR6.out.que.lt (g := gq) rfl).2
        have hS8 := Lib.hid (((hR6.out.weak (ok' := fun b => (Value.slice (some ⟨gq, oq, none⟩) (xs.length + 1) cq).ownBlock ≠ some b ∧ b ≠ w7.heap.size) (fun b hb h => ⟨h, by omega⟩) (fun b hb h => h.1 hb)).alloc (.cells (Array.replicate M.s (.int .i64 0)) 3)))
        have hB8 : Hid (Blk (w7.alloc (.cells (Array.replicate M.s (.int .i64 0)) 3)) w7.heap.size 3 ((List.replicate M.s (0 : Int)).map (Value.int .i64))) := Lib.hid (by
          have := Blk.new w7 3 (List.replicate M.s (.int .i64 0))
          rw [List.toArray_replicate] at this
          rw [List.map_replicate]; exact this)
        have hN8 : Hid ((Value.slice (some ⟨gq, oq, none⟩) (xs.length + 1) cq).ownBlock ≠ some w7.heap.size) := Lib.hid (by intro e; injection e with e; have e : gq = w7.heap.size := e; omega)
        have hZ8 : Hid (w7.heap.size < (w7.alloc (.cells (Array.replicate M.s (.int .i64 0)) 3)).heap.size) := Lib.hid (by simp)
        have HMO := Lib.hid HOK.out.met
        have HDR7 := Lib.hid hz7g
        have HLT7 := Lib.hid (show Below w4.heap.size w4 w7 from hR6.out.low)
        go_wp2_with fail
        clear k1 k3 a0 a1 a2 hR6
        generalize w7.alloc (.cells (Array.replicate M.s (.int .i64 0)) 3) = w8 at *
        go_loopg [8, 60] M.s (fun f2 qv iv wx => ∃ (d : Nat) (Er : List Int), d + f2 = M.s ∧ iv = .int .i64 (d : Int) ∧ Hid (OfR M C w4 w4.heap.size D a (rowG M M.eqB i met d).1 rows (tks ++ [bv]) qv (.slice AN rows.length cN) (.slice Av2 nv2 cv2) (fun b => qv.ownBlock ≠ some b ∧ b ≠ w7.heap.size) wx) ∧ Hid (Blk wx w7.heap.size 3 (Er.map (Value.int .i64))) ∧ Hid (Er.length = M.s ∧ ∀ e, e < d → gi Er e = gi (rowG M M.eqB i met d).2 e) ∧ Hid (qv.ownBlock ≠ some w7.heap.size) ∧ Hid (w7.heap.size < wx.heap.size))
        case atStart => exact ⟨0, _, by omega, rfl, hS8, hB8, Lib.hid ⟨by simp, fun e he => absurd he (by omega)⟩, hN8, hZ8⟩
        case round =>
          clear hS8 hB8 hN8 hZ8
          obtain ⟨d, Er, hdf, rfl, HX, HBR, HER, HNQ, HZR⟩ := hrel
          by_cases hld : d < M.s
          · obtain ⟨f2, rfl⟩ : ∃ f, gk = f + 1 := ⟨gk - 1, by omega⟩
            obtain ⟨hmq, hpre, _, _⟩ := rowG_ok HO.out HIL.out HMO.out d (by omega)
            have HSTEP : Hid (rowG M M.eqB i met (d + 1) = (if idxE M.eqB (rowG M M.eqB i met d).1 (M.st i d) = (rowG M M.eqB i met d).1.length then (rowG M M.eqB i met d).1 ++ [M.st i d] else (rowG M M.eqB i met d).1, (rowG M M.eqB i met d).2 ++ [(idxE M.eqB (rowG M M.eqB i met d).1 (M.st i d) : Int)])) := Lib.hid rfl
            have HRL := Lib.hid (rowG_gi (M := M) (E := M.eqB) (i := i) (met := met) d)
            have hst := HO.out.st_eq HIL.out hld
            have hsl := HO.out.st_lt HIL.out hld
            obtain ⟨b4, o4, ha4, hb4', ce⟩ := (HI.out.keep (w' := wr) (fun p hp => (HX.out.low.cell (Nat.lt_of_lt_of_le hp (Nat.le_trans HBD.out hgz))).trans (HLT7.out.cell (Nat.lt_of_lt_of_le hp (Nat.le_trans HBD.out hgz))).symm)).at_ hld
            subst ha4
            rw [hst] at ce
            have e2 : wr.cell? ⟨gC, M.st i d, none⟩ = some (.int .i64 (gi C (M.st i d))) := row_cellL (HCw.out.below HX.out.low HCg.out) (by rw [HCL.out]; exact hsl)
            have hwf : (Lit.int .i64 (gi C (M.st i d))).wf = true := wf_small (by have := HRG.out _ hsl; omega)
            have hHAS := look_has HCE.out HO.out hmq hsl
            have HAT := Lib.hid (look_at HCE.out HO.out hmq hsl)
            have HSZ := Lib.hid (mapD_size _ _ (clM_ne HCE.out HO.out hmq))
            have hql : (rowG M M.eqB i met d).1.length ≤ 1000 := by have := hmq.len; have := HN.out; omega
            have hqa : Hid (a ≤ (rowG M M.eqB i met d).1.length) := Lib.hid (by obtain ⟨l, hl⟩ := hpre; rw [hl, List.length_append]; have := HA.out; omega)
            have hMQ := Lib.hid hmq
            have hslm : M.st i d < m := by have := HN.out; omega
            have p3 : (d : Int) < (M.s : Int) := by omega
            have p4 : IntKind.i64.wrap ((d : Int) + 1) = (d : Int) + 1 := i64_in _ (by omega)
            have p5 : (M.st i d : Int) < (m : Int) := by omega
            have s1 : wr.cell? ⟨w7.heap.size, d, none⟩ = some (.int .i64 (gi Er d)) := row_cellL HBR.out (by rw [HER.out.1]; exact hld)
            have s2 : wr.frozen? ⟨w7.heap.size, d, none⟩ = false := HBR.out.frozen _
            have hile := idxE_le M.eqB (rowG M M.eqB i met d).1 (M.st i d)
            clear hst hmq hpre hsl
            generalize hrg : rowG M M.eqB i met d = rg at *
            obtain ⟨q, rw_⟩ := rg
            simp only [] at *
            generalize hix : idxE M.eqB q (M.st i d) = ix at *
            generalize M.st i d = t at *
            clear hrg hix
            by_cases hin : ix < q.length
            · rw [decide_eq_true hin] at hHAS
              have HAI := Lib.hid (fun z => HAT.out hin z)
              rw [if_neg (by omega : ¬ ix = q.length)] at HSTEP
              have HER2 : Hid ((Er.set d (ix : Int)).length = M.s ∧ ∀ e, e < d + 1 → gi (Er.set d (ix : Int)) e = gi (rw_ ++ [(ix : Int)]) e) := Lib.hid (row_snoc HER.out hld HRL.out.1)
              clear HAT hin hile
              go_wp2_with (at_lookup; refine wpList_lookup_own_ok_int _ rfl _ _ 52 rfl 3 3 .i64 lawI Tryd.underlying52 Tryd.underlying3 (zeroI _) (w4.heap.size + 1) q.length _ rfl HX.out.map _ _ rfl (keyOf_int_mk Tryd.underlying3 hwf) ?_; intro cv hat hwc; rw [hHAS]; (have hcv : cv = (ix : Int) := (by have h := hat.symm.trans (HAI.out _); injection h with h; injection h)); clear hat hwc; subst hcv)
              go_roundg f2
              case measure => omega
              case rel =>
                refine ⟨d + 1, Er.set d (ix : Int), by omega, by simp, ?_, Lib.hid (blk_setL HBR.out), ?_, HNQ, Lib.hid (by have := HZR.out; simp only [World.setCell, Array.size_modify]; exact this)⟩
                · rw [HSTEP.out]; exact Lib.hid (HX.out.setR HBR.out (by have := HDR7.out; omega) HNQ.out)
                · rw [HSTEP.out]; exact HER2
            · have hixl : ix = q.length := by omega
              rw [decide_eq_false hin] at hHAS
              rw [if_pos hixl] at HSTEP
              have HER2 : Hid ((Er.set d (ix : Int)).length = M.s ∧ ∀ e, e < d + 1 → gi (Er.set d (ix : Int)) e = gi (rw_ ++ [(ix : Int)]) e) := Lib.hid (row_snoc HER.out hld HRL.out.1)
              rw [hixl] at HER2 HSTEP
              have hsz := HSZ.out
              have hwfq : (Lit.int .i64 (q.length : Int)).wf = true := wf_small (by omega)
              have hDz : D ≤ w7.heap.size := by have := HDR7.out; omega
              clear HAT hin hile
              go_wp2_with (first
                | (at_lookup; refine wpList_lookup_own_ok_int _ rfl _ _ 52 rfl 3 3 .i64 lawI Tryd.underlying52 Tryd.underlying3 (zeroI _) (w4.heap.size + 1) q.length _ rfl HX.out.map _ _ rfl (keyOf_int_mk Tryd.underlying3 hwf) ?_; intro cv hat hwc; rw [hHAS]; clear hat hwc)
                | (at_len; refine wpList_len_own _ rfl _ 52 rfl 3 3 Tryd.underlying52 PE (w4.heap.size + 1) q.length _ rfl HX.out.map ?_; rw [hsz])
                | (at_mapUpdate; refine wpList_mapUpdate_own _ rfl _ _ _ 52 rfl 3 3 lawI Tryd.underlying52 PE (w4.heap.size + 1) q.length _ rfl HX.out.map (by unfold maxLen; omega) _ _ _ rfl rfl (keyOf_int_mk Tryd.underlying3 hwf) _ [] (plainElem_int Tryd.underlying3 hwfq) ?_; intro w9 hown9 hgr9)
                | (at_builtin; refine wpList_append_q (w := w9) rfl (.tmp 84) (.tmp 86) _ rfl 3 i0 _ Tryd.underlying44 hi0 hz0 hz1 (by omega) rfl D _ ((q.drop a).map fun x : Nat => (x : Int)) (t : Int) rfl rfl (HX.out.que.kept hgr9 (by obtain ⟨k, hk⟩ := HX.out.que.some; have := (HX.out.que.lt hk).1; rw [hk]; intro e; injection e with e; have := HDD.out; omega)) (by rw [List.length_map, List.length_drop]; omega) (by have h1 := hgr9.size; have h2 := HZR.out; omega) ?_; intro v9 w10 hq10 hgr10 hl10; have hb9 : w9.heap[w7.heap.size]? = wr.heap[w7.heap.size]? := hgr9.block _ HZR.out (by intro e; injection e with e; have := HDR7.out; omega); have hb10 : w10.heap[w7.heap.size]? = wr.heap[w7.heap.size]? := (hgr10.block _ (Nat.lt_of_lt_of_le HZR.out hgr9.size) (fun e => HNQ.out e.symm)).trans hb9; have s3 : w10.cell? ⟨w7.heap.size, d, none⟩ = some (.int .i64 (gi Er d)) := (World.cell?_of_block (a := ⟨w7.heap.size, d, none⟩) hb10).trans s1; have s4 : w10.frozen? ⟨w7.heap.size, d, none⟩ = false := (World.frozen?_of_block (a := ⟨w7.heap.size, d, none⟩) hb10).trans s2))
              have hz9 : wr.heap.size ≤ w9.heap.size := hgr9.size
              have hz10 : w9.heap.size ≤ w10.heap.size := hgr10.size
              have hnq9 : v9.ownBlock ≠ some w7.heap.size := by
                rcases hl10 with h | ⟨g, h, hg⟩
                · rw [h]; exact HNQ.out
                · rw [h]; intro e; injection e with e; have := HZR.out; omega
              have hB10 : Blk w10 w7.heap.size 3 (Er.map (Value.int .i64)) := hb10.trans HBR.out
              have HX10 := Lib.hid ((HX.out.addQ (P := fun b => b ≠ w7.heap.size) hqa.out hgr9 hown9 hgr10 hl10 hq10).setR (k := d) (u := .int .i64 (q.length : Int)) hB10 hDz hnq9)
              have HB10 := Lib.hid (blk_setL (k := d) (v := (q.length : Int)) hB10)
              have HN10 := Lib.hid hnq9
              have HZ10 : Hid (w7.heap.size < (w10.setCell ⟨w7.heap.size, d, none⟩ (.int .i64 (q.length : Int))).heap.size) := Lib.hid (by have := HZR.out; simp only [World.setCell, Array.size_modify]; omega)
              clear hown9 hgr9 hq10 hgr10 hl10 hB10 hnq9
              go_roundg f2
              case measure => omega
              case rel =>
                refine ⟨d + 1, Er.set d (q.length : Int), by omega, by simp, ?_, HB10, ?_, HN10, HZ10⟩
                · rw [HSTEP.out]; exact HX10
                · rw [HSTEP.out]; exact HER2
          · obtain rfl : d = M.s := by omega
            have p3 : ¬ (M.s : Int) < (M.s : Int) := by omega
            have hEr : Er = (rowG M M.eqB i met M.s).2 := ints_ext (by rw [HER.out.1]; exact (rowG_gi M.s).1.symm) (fun e he => HER.out.2 e (by rw [HER.out.1] at he; exact he))
            obtain ⟨hmq, hpre, hrl, _⟩ := rowG_ok HO.out HIL.out HMO.out M.s (Nat.le_refl _)
            have hqa : a < (rowG M M.eqB i met M.s).1.length := by obtain ⟨l, hl⟩ := hpre; rw [hl, List.length_append]; have := HA.out; omega
            have hql : (rowG M M.eqB i met M.s).1.length ≤ 1000 := by have := hmq.len; have := HN.out; omega
            rw [← hEr] at hrl HSTP
            clear hpre hmq hEr
            generalize (rowG M M.eqB i met M.s).1 = q at *
            have hqd : q.drop a = q.getD a 0 :: q.drop (a + 1) := by rw [List.drop_eq_getElem_cons hqa, List.getD_eq_getElem?_getD, List.getElem?_eq_getElem hqa]; rfl
            have HW := Lib.hid (HX.out.weak (ok' := fun b => Value.ownBlock _ ≠ some b) (fun b _ h => h.1) (fun b hb h => h hb))
            have hque := HW.out.que
            rw [hqd, List.map_cons] at hque
            obtain ⟨g9, o9, k9, hv9, _⟩ := hque.head
            subst hv9
            generalize hxs9 : (q.drop (a + 1)).map (fun x : Nat => (x : Int)) = xs9 at *
            have HQD := Lib.hid hqd; have HXS9 := Lib.hid hxs9
            obtain ⟨KC, hk1, hk2, hk3⟩ := HW.out.rows
            have HK1 := Lib.hid hk1; have HK2 := Lib.hid hk2; have HK3 := Lib.hid hk3
            have HRW : Hid (rows.length ≤ 1000) := Lib.hid (by have := HOK.out.rl; have := HOK.out.met.len; have := HN.out; simp only [] at *; omega)
            obtain ⟨d0, d1, d2, f0, f1, f2'⟩ := three_atL HW.out.out
            have HOT := Lib.hid HW.out.out
            have p8 : (1 : Int) ≤ (xs9.length : Int) + 1 := by omega
            have hDz : D ≤ w7.heap.size := by have := HDR7.out; omega
            clear hque hqd hxs9 hk1 hk2 hk3 HX
            have HCU : Hid (∀ d, d < M.s → (Er.map (Value.int .i64)).toArray[d]? = some (.int .i64 (gi Er d))) := Lib.hid (fun d hd => by
              have hl : d < Er.length := by rw [HER.out.1]; exact hd
              rw [List.getElem?_toArray, List.getElem?_map, List.getElem?_eq_getElem hl, gi_eq hl]; rfl)
            by_cases hk9 : k9 = 1
            all_goals
              go_wp2_with (at_builtin; refine wpList_append1g rfl (.tmp 94) (.tmp 96) _ rfl 44 i1 _ Tryd.underlying22 hi1 hy0 hy1 (by omega) rfl D (.slice AN rows.length cN) KC (.slice (some ⟨w7.heap.size, 0, none⟩) M.s M.s) rfl rfl rfl HK2.out (by have := HK1.out; have := HRW.out; omega) (by have := HZR.out; omega) ?_; intro v11 w11 hown11 hgr11 hloc11; obtain ⟨A11, n11, c11, e11⟩ : ∃ A n c, v11 = .slice A n c := (by obtain ⟨A', c', e, _⟩ := own_shape hown11; exact ⟨A', _, c', e⟩); subst e11; have hOb : w11.heap[w4.heap.size]? = wr.heap[w4.heap.size]? := hgr11.block _ (by have := HDR7.out; have := HZR.out; omega) (fun e => by have h1 := HW.out.rows.lt e.symm; have := HDD.out; omega); have s5 : w11.cell? ⟨w4.heap.size, 1, none⟩ = some (.slice AN rows.length cN) := (World.cell?_of_block (a := ⟨w4.heap.size, 1, none⟩) hOb).trans d1; have s6 : w11.frozen? ⟨w4.heap.size, 1, none⟩ = false := (World.frozen?_of_block (a := ⟨w4.heap.size, 1, none⟩) hOb).trans f1)
              have hpop := (HW.out.addN (gk := w7.heap.size) (m := M.s) (cap := M.s) (K := Er) (cu := (Er.map (Value.int .i64)).toArray) HK1.out HK3.out hDz HNQ.out HBR.out HER.out.1 HCU.out hgr11 hown11).pop HQD.out HXS9.out rfl
              first
                | rw [if_pos hk9, hk9] at hpop
                | rw [if_neg hk9] at hpop
              have HPOP := Lib.hid hpop
              clear hpop hown11 hgr11 hloc11
              go_roundg f
              case measure => omega
              case rel => exact ⟨a + 1, _, _, by omega, by rw [HSTP.out]; exact HPOP⟩
      · go_simp
        change K _ (wr.drew.alloc (.cells #[.bool bv] 4))
        refine hK.out _ _ s1 (fun hH5 => ?_)
        clear hK K
        try simp only [Act.put, List.getElem_toArray, List.getElem_cons_zero, List.getElem_cons_succ, List.setIfInBounds_toArray, List.set_cons_zero, List.set_cons_succ]
        refine wpAnyH_ready (rs := [1]) (by kernel_rfl) (by simp) (AllReadyH.cons rfl (fun K hK => ?_) AllReadyH.nil)
        go_simp
        change K _ (wr.drew.alloc (.cells #[.bool bv] 4))
        refine hK.out _ _ s1 (fun hH6 => ?_)
        clear hK K
        try simp only [Act.put, List.getElem_toArray, List.getElem_cons_zero, List.getElem_cons_succ, List.setIfInBounds_toArray, List.set_cons_zero, List.set_cons_succ]
        refine wpAnyH_ready (rs := [8]) (by kernel_rfl) (by simp) (AllReadyH.cons rfl (fun K hK => ?_) AllReadyH.nil)
        rw [if_pos (by rfl)]
        refine wp_append1g (w := wr.drew) (.tmp 41) (.tmp 47) _ rfl 4 i2 _ Tryd.underlying23 hi2 hx0 hx1 (by omega) rfl D (.slice AT TV.length cT) _ (.bool bv) rfl rfl rfl HTK.out (by have := HTL.out; omega) (by show D ≤ wr.heap.size; omega) ?_
        intro v2 w6 hown2 hgr2 hloc2
        obtain ⟨Av2, nv2, cv2, ev2⟩ : ∃ A n c, v2 = .slice A n c := by obtain ⟨A', c', e, _⟩ := own_shape hown2; exact ⟨A', _, c', e⟩
        subst ev2
        have hTo : ∀ k, (Value.slice AT TV.length cT).ownBlock = some k → D ≤ k := fun k hk => own_lt HTK.out hk
        have s2 : w6.cell? ⟨w.heap.size, 2, none⟩ = some (.slice (some ⟨b2, o2, none⟩) m c2) ∧ w6.cell? ⟨b2, o2 + i, none⟩ = some (.bool bv) := ⟨(World.cell?_of_block (a := ⟨w.heap.size, 2, none⟩) (hgr2.block w.heap.size (show w.heap.size < wr.heap.size by omega) (fun e => by have := hTo _ e.symm; omega))).trans s0.1, (World.cell?_of_block (a := ⟨b2, o2 + i, none⟩) (hgr2.block b2 (show b2 < wr.heap.size by omega) (fun e => by have := hTo _ e.symm; omega))).trans s0.2⟩
        have hR6 := Lib.hid (hRd.addT (b := bv) hgr2 hloc2 (by rw [List.map_append, HTV.out]; exact hown2))
        have hO6 : w6.heap[w4.heap.size]? = some (.cells #[S M.sg, .slice AN rows.length cN, .slice AT TV.length cT] 25 (0, 0)) := (hgr2.block w4.heap.size (show w4.heap.size < wr.heap.size by omega) (fun e => by have := hTo _ e.symm; omega)).trans hRd.out
        obtain ⟨_, _, g2, _, _, g5⟩ := three_atL hO6
        try simp only [Act.put, List.getElem_toArray, List.getElem_cons_zero, List.getElem_cons_succ, List.setIfInBounds_toArray, List.set_cons_zero, List.set_cons_succ]
        refine hK.out _ _ s2 (fun hH7 => ?_)
        clear hK K
        try simp only [Act.put, List.getElem_toArray, List.getElem_cons_zero, List.getElem_cons_succ, List.setIfInBounds_toArray, List.set_cons_zero, List.set_cons_succ]
        refine wpAnyH_take (i := 9) (v := ?_) rfl (by kernel_rfl) (by kernel_rfl) (by kernel_rfl) (fun _ _ _ h => h) (Or.inl ⟨by rfl, ?_⟩) hH7 ?_
        rotate_left
        · intro W hSw; (try dsimp only at hSw); go_simp; try with_reducible rfl
        try simp only [Act.put, List.getElem_toArray, List.getElem_cons_zero, List.getElem_cons_succ, List.setIfInBounds_toArray, List.set_cons_zero, List.set_cons_succ]
        refine wpAnyH_ready (rs := [10]) (by kernel_rfl) (by simp) (AllReadyH.cons rfl (fun K hK => ?_) AllReadyH.nil)
        go_simp
        change K _ (w6.setCell ⟨w4.heap.size, 2, none⟩ (.slice Av2 nv2 cv2))
        have s3 : (w6.setCell ⟨w4.heap.size, 2, none⟩ (.slice Av2 nv2 cv2)).cell? ⟨w.heap.size, 2, none⟩ = some (.slice (some ⟨b2, o2, none⟩) m c2) ∧ (w6.setCell ⟨w4.heap.size, 2, none⟩ (.slice Av2 nv2 cv2)).cell? ⟨b2, o2 + i, none⟩ = some (.bool bv) := ⟨(World.cell?_setCell_far w6 ⟨w4.heap.size, 2, none⟩ ⟨w.heap.size, 2, none⟩ _ (by show w4.heap.size ≠ w.heap.size; omega)).trans s2.1, (World.cell?_setCell_far w6 ⟨w4.heap.size, 2, none⟩ ⟨b2, o2 + i, none⟩ _ (by show w4.heap.size ≠ b2; omega)).trans s2.2⟩
        refine hK.out _ _ s3 (fun hH8 => ?_)
        clear hK K
        try simp only [Act.put, List.getElem_toArray, List.getElem_cons_zero, List.getElem_cons_succ, List.setIfInBounds_toArray, List.set_cons_zero, List.set_cons_succ]
        refine wpAnyH_done (by kernel_rfl) ?_ _
        generalize w6.setCell ⟨w4.heap.size, 2, none⟩ (.slice Av2 nv2 cv2) = w7 at *
        clear s0 s1 s2 s3 d2e d2e2 hO6 g2 g5 hown2 hgr2 hloc2 hTo hRd a0 a1 a2 d0 d1 d2 f0 f1 f2 ct HR
        have HLOW7 := Lib.hid (HB4.out.trans (hR6.out.low.mono hgz))
        obtain ⟨a0, a1, a2⟩ := HC3.out w7 HLOW7.out
        have hz7 : w.heap.size < w7.heap.size := by have := HLOW7.out.size; omega
        have k1 : ∀ o, (w7.alloc o).cell? ⟨w.heap.size, 1, none⟩ = some (.slice A m c) := fun o => (World.cell?_alloc_lt w7 o ⟨w.heap.size, 1, none⟩ hz7).trans a1
        have HM7 := Lib.hid (HM2.out.below (HLOW7.out.mono HBD.out))
        obtain ⟨b3, o3, a3, m3, c3, hA3, _, cr, hI⟩ := HM7.out.rows.at_ him
        subst hA3
        obtain rfl : m3 = M.s := hI.1.symm.trans (HO.out.row i HIL.out)
        have k3 : ∀ o, (w7.alloc o).cell? ⟨b3, o3 + i, none⟩ = some (.slice a3 M.s c3) := fun o => (World.cell?_alloc_lt w7 o ⟨b3, o3 + i, none⟩ (World.block_lt_of_cell? w7 _ cr)).trans cr
        have HI := Lib.hid hI
        clear hI cr
        have hz7g : w4.heap.size + 2 ≤ w7.heap.size := by have h1 := (hR6.out.que.lt (g := gq) rfl); have h2 : D ≤ gq ∧ gq < w7.heap.size := h1; omega
        have hGQ7 : gq < w7.heap.size := (hR6.out.que.lt (g := gq) rfl).2
        have hS8 := Lib.hid (((hR6.out.weak (ok' := fun b => (Value.slice (some ⟨gq, oq, none⟩) (xs.length + 1) cq).ownBlock ≠ some b ∧ b ≠ w7.heap.size) (fun b hb h => ⟨h, by omega⟩) (fun b hb h => h.1 hb)).alloc (.cells (Array.replicate M.s (.int .i64 0)) 3)))
        have hB8 : Hid (Blk (w7.alloc (.cells (Array.replicate M.s (.int .i64 0)) 3)) w7.heap.size 3 ((List.replicate M.s (0 : Int)).map (Value.int .i64))) := Lib.hid (by
          have := Blk.new w7 3 (List.replicate M.s (.int .i64 0))
          rw [List.toArray_replicate] at this
          rw [List.map_replicate]; exact this)
        have hN8 : Hid ((Value.slice (some ⟨gq, oq, none⟩) (xs.length + 1) cq).ownBlock ≠ some w7.heap.size) := Lib.hid (by intro e; injection e with e; have e : gq = w7.heap.size := e; omega)
        have hZ8 : Hid (w7.heap.size < (w7.alloc (.cells (Array.replicate M.s (.int .i64 0)) 3)).heap.size) := Lib.hid (by simp)
        have HMO := Lib.hid HOK.out.met
        have HDR7 := Lib.hid hz7g
        have HLT7 := Lib.hid (show Below w4.heap.size w4 w7 from hR6.out.low)
        go_wp2_with fail
        clear k1 k3 a0 a1 a2 hR6
        generalize w7.alloc (.cells (Array.replicate M.s (.int .i64 0)) 3) = w8 at *
        go_loopg [8, 60] M.s (fun f2 qv iv wx => ∃ (d : Nat) (Er : List Int), d + f2 = M.s ∧ iv = .int .i64 (d : Int) ∧ Hid (OfR M C w4 w4.heap.size D a (rowG M M.eqB i met d).1 rows (tks ++ [bv]) qv (.slice AN rows.length cN) (.slice Av2 nv2 cv2) (fun b => qv.ownBlock ≠ some b ∧ b ≠ w7.heap.size) wx) ∧ Hid (Blk wx w7.heap.size 3 (Er.map (Value.int .i64))) ∧ Hid (Er.length = M.s ∧ ∀ e, e < d → gi Er e = gi (rowG M M.eqB i met d).2 e) ∧ Hid (qv.ownBlock ≠ some w7.heap.size) ∧ Hid (w7.heap.size < wx.heap.size))
        case atStart => exact ⟨0, _, by omega, rfl, hS8, hB8, Lib.hid ⟨by simp, fun e he => absurd he (by omega)⟩, hN8, hZ8⟩
        case round =>
          clear hS8 hB8 hN8 hZ8
          obtain ⟨d, Er, hdf, rfl, HX, HBR, HER, HNQ, HZR⟩ := hrel
          by_cases hld : d < M.s
          · obtain ⟨f2, rfl⟩ : ∃ f, gk = f + 1 := ⟨gk - 1, by omega⟩
            obtain ⟨hmq, hpre, _, _⟩ := rowG_ok HO.out HIL.out HMO.out d (by omega)
            have HSTEP : Hid (rowG M M.eqB i met (d + 1) = (if idxE M.eqB (rowG M M.eqB i met d).1 (M.st i d) = (rowG M M.eqB i met d).1.length then (rowG M M.eqB i met d).1 ++ [M.st i d] else (rowG M M.eqB i met d).1, (rowG M M.eqB i met d).2 ++ [(idxE M.eqB (rowG M M.eqB i met d).1 (M.st i d) : Int)])) := Lib.hid rfl
            have HRL := Lib.hid (rowG_gi (M := M) (E := M.eqB) (i := i) (met := met) d)
            have hst := HO.out.st_eq HIL.out hld
            have hsl := HO.out.st_lt HIL.out hld
            obtain ⟨b4, o4, ha4, hb4', ce⟩ := (HI.out.keep (w' := wr) (fun p hp => (HX.out.low.cell (Nat.lt_of_lt_of_le hp (Nat.le_trans HBD.out hgz))).trans (HLT7.out.cell (Nat.lt_of_lt_of_le hp (Nat.le_trans HBD.out hgz))).symm)).at_ hld
            subst ha4
            rw [hst] at ce
            have e2 : wr.cell? ⟨gC, M.st i d, none⟩ = some (.int .i64 (gi C (M.st i d))) := row_cellL (HCw.out.below HX.out.low HCg.out) (by rw [HCL.out]; exact hsl)
            have hwf : (Lit.int .i64 (gi C (M.st i d))).wf = true := wf_small (by have := HRG.out _ hsl; omega)
            have hHAS := look_has HCE.out HO.out hmq hsl
            have HAT := Lib.hid (look_at HCE.out HO.out hmq hsl)
            have HSZ := Lib.hid (mapD_size _ _ (clM_ne HCE.out HO.out hmq))
            have hql : (rowG M M.eqB i met d).1.length ≤ 1000 := by have := hmq.len; have := HN.out; omega
            have hqa : Hid (a ≤ (rowG M M.eqB i met d).1.length) := Lib.hid (by obtain ⟨l, hl⟩ := hpre; rw [hl, List.length_append]; have := HA.out; omega)
            have hMQ := Lib.hid hmq
            have hslm : M.st i d < m := by have := HN.out; omega
            have p3 : (d : Int) < (M.s : Int) := by omega
            have p4 : IntKind.i64.wrap ((d : Int) + 1) = (d : Int) + 1 := i64_in _ (by omega)
            have p5 : (M.st i d : Int) < (m : Int) := by omega
            have s1 : wr.cell? ⟨w7.heap.size, d, none⟩ = some (.int .i64 (gi Er d)) := row_cellL HBR.out (by rw [HER.out.1]; exact hld)
            have s2 : wr.frozen? ⟨w7.heap.size, d, none⟩ = false := HBR.out.frozen _
            have hile := idxE_le M.eqB (rowG M M.eqB i met d).1 (M.st i d)
            clear hst hmq hpre hsl
            generalize hrg : rowG M M.eqB i met d = rg at *
            obtain ⟨q, rw_⟩ := rg
            simp only [] at *
            generalize hix : idxE M.eqB q (M.st i d) = ix at *
            generalize M.st i d = t at *
            clear hrg hix
            by_cases hin : ix < q.length
            · rw [decide_eq_true hin] at hHAS
              have HAI := Lib.hid (fun z => HAT.out hin z)
              rw [if_neg (by omega : ¬ ix = q.length)] at HSTEP
              have HER2 : Hid ((Er.set d (ix : Int)).length = M.s ∧ ∀ e, e < d + 1 → gi (Er.set d (ix : Int)) e = gi (rw_ ++ [(ix : Int)]) e) := Lib.hid (row_snoc HER.out hld HRL.out.1)
              clear HAT hin hile
              go_wp2_with (at_lookup; refine wpList_lookup_own_ok_int _ rfl _ _ 52 rfl 3 3 .i64 lawI Tryd.underlying52 Tryd.underlying3 (zeroI _) (w4.heap.size + 1) q.length _ rfl HX.out.map _ _ rfl (keyOf_int_mk Tryd.underlying3 hwf) ?_; intro cv hat hwc; rw [hHAS]; (have hcv : cv = (ix : Int) := (by have h := hat.symm.trans (HAI.out _); injection h with h; injection h)); clear hat hwc; subst hcv)
              go_roundg f2
              case measure => omega
              case rel =>
                refine ⟨d + 1, Er.set d (ix : Int), by omega, by simp, ?_, Lib.hid (blk_setL HBR.out), ?_, HNQ, Lib.hid (by have := HZR.out; simp only [World.setCell, Array.size_modify]; exact this)⟩
                · rw [HSTEP.out]; exact Lib.hid (HX.out.setR HBR.out (by have := HDR7.out; omega) HNQ.out)
                · rw [HSTEP.out]; exact HER2
            · have hixl : ix = q.length := by omega
              rw [decide_eq_false hin] at hHAS
              rw [if_pos hixl] at HSTEP
              have HER2 : Hid ((Er.set d (ix : Int)).length = M.s ∧ ∀ e, e < d + 1 → gi (Er.set d (ix : Int)) e = gi (rw_ ++ [(ix : Int)]) e) := Lib.hid (row_snoc HER.out hld HRL.out.1)
              rw [hixl] at HER2 HSTEP
              have hsz := HSZ.out
              have hwfq : (Lit.int .i64 (q.length : Int)).wf = true := wf_small (by omega)
              have hDz : D ≤ w7.heap.size := by have := HDR7.out; omega
              clear HAT hin hile
              go_wp2_with (first
                | (at_lookup; refine wpList_lookup_own_ok_int _ rfl _ _ 52 rfl 3 3 .i64 lawI Tryd.underlying52 Tryd.underlying3 (zeroI _) (w4.heap.size + 1) q.length _ rfl HX.out.map _ _ rfl (keyOf_int_mk Tryd.underlying3 hwf) ?_; intro cv hat hwc; rw [hHAS]; clear hat hwc)
                | (at_len; refine wpList_len_own _ rfl _ 52 rfl 3 3 Tryd.underlying52 PE (w4.heap.size + 1) q.length _ rfl HX.out.map ?_; rw [hsz])
                | (at_mapUpdate; refine wpList_mapUpdate_own _ rfl _ _ _ 52 rfl 3 3 lawI Tryd.underlying52 PE (w4.heap.size + 1) q.length _ rfl HX.out.map (by unfold maxLen; omega) _ _ _ rfl rfl (keyOf_int_mk Tryd.underlying3 hwf) _ [] (plainElem_int Tryd.underlying3 hwfq) ?_; intro w9 hown9 hgr9)
                | (at_builtin; refine wpList_append_q (w := w9) rfl (.tmp 84) (.tmp 86) _ rfl 3 i0 _ Tryd.underlying44 hi0 hz0 hz1 (by omega) rfl D _ ((q.drop a).map fun x : Nat => (x : Int)) (t : Int) rfl rfl (HX.out.que.kept hgr9 (by obtain ⟨k, hk⟩ := HX.out.que.some; have := (HX.out.que.lt hk).1; rw [hk]; intro e; injection e with e; have := HDD.out; omega)) (by rw [List.length_map, List.length_drop]; omega) (by have h1 := hgr9.size; have h2 := HZR.out; omega) ?_; intro v9 w10 hq10 hgr10 hl10; have hb9 : w9.heap[w7.heap.size]? = wr.heap[w7.heap.size]? := hgr9.block _ HZR.out (by intro e; injection e with e; have := HDR7.out; omega); have hb10 : w10.heap[w7.heap.size]? = wr.heap[w7.heap.size]? := (hgr10.block _ (Nat.lt_of_lt_of_le HZR.out hgr9.size) (fun e => HNQ.out e.symm)).trans hb9; have s3 : w10.cell? ⟨w7.heap.size, d, none⟩ = some (.int .i64 (gi Er d)) := (World.cell?_of_block (a := ⟨w7.heap.size, d, none⟩) hb10).trans s1; have s4 : w10.frozen? ⟨w7.heap.size, d, none⟩ = false := (World.frozen?_of_block (a := ⟨w7.heap.size, d, none⟩) hb10).trans s2))
              have hz9 : wr.heap.size ≤ w9.heap.size := hgr9.size
              have hz10 : w9.heap.size ≤ w10.heap.size := hgr10.size
              have hnq9 : v9.ownBlock ≠ some w7.heap.size := by
                rcases hl10 with h | ⟨g, h, hg⟩
                · rw [h]; exact HNQ.out
                · rw [h]; intro e; injection e with e; have := HZR.out; omega
              have hB10 : Blk w10 w7.heap.size 3 (Er.map (Value.int .i64)) := hb10.trans HBR.out
              have HX10 := Lib.hid ((HX.out.addQ (P := fun b => b ≠ w7.heap.size) hqa.out hgr9 hown9 hgr10 hl10 hq10).setR (k := d) (u := .int .i64 (q.length : Int)) hB10 hDz hnq9)
              have HB10 := Lib.hid (blk_setL (k := d) (v := (q.length : Int)) hB10)
              have HN10 := Lib.hid hnq9
              have HZ10 : Hid (w7.heap.size < (w10.setCell ⟨w7.heap.size, d, none⟩ (.int .i64 (q.length : Int))).heap.size) := Lib.hid (by have := HZR.out; simp only [World.setCell, Array.size_modify]; omega)
              clear hown9 hgr9 hq10 hgr10 hl10 hB10 hnq9
              go_roundg f2
              case measure => omega
              case rel =>
                refine ⟨d + 1, Er.set d (q.length : Int), by omega, by simp, ?_, HB10, ?_, HN10, HZ10⟩
                · rw [HSTEP.out]; exact HX10
                · rw [HSTEP.out]; exact HER2
          · obtain rfl : d = M.s := by omega
            have p3 : ¬ (M.s : Int) < (M.s : Int) := by omega
            have hEr : Er = (rowG M M.eqB i met M.s).2 := ints_ext (by rw [HER.out.1]; exact (rowG_gi M.s).1.symm) (fun e he => HER.out.2 e (by rw [HER.out.1] at he; exact he))
            obtain ⟨hmq, hpre, hrl, _⟩ := rowG_ok HO.out HIL.out HMO.out M.s (Nat.le_refl _)
            have hqa : a < (rowG M M.eqB i met M.s).1.length := by obtain ⟨l, hl⟩ := hpre; rw [hl, List.length_append]; have := HA.out; omega
            have hql : (rowG M M.eqB i met M.s).1.length ≤ 1000 := by have := hmq.len; have := HN.out; omega
            rw [← hEr] at hrl HSTP
            clear hpre hmq hEr
            generalize (rowG M M.eqB i met M.s).1 = q at *
            have hqd : q.drop a = q.getD a 0 :: q.drop (a + 1) := by rw [List.drop_eq_getElem_cons hqa, List.getD_eq_getElem?_getD, List.getElem?_eq_getElem hqa]; rfl
            have HW := Lib.hid (HX.out.weak (ok' := fun b => Value.ownBlock _ ≠ some b) (fun b _ h => h.1) (fun b hb h => h hb))
            have hque := HW.out.que
            rw [hqd, List.map_cons] at hque
            obtain ⟨g9, o9, k9, hv9, _⟩ := hque.head
            subst hv9
            generalize hxs9 : (q.drop (a + 1)).map (fun x : Nat => (x : Int)) = xs9 at *
            have HQD := Lib.hid hqd; have HXS9 := Lib.hid hxs9
            obtain ⟨KC, hk1, hk2, hk3⟩ := HW.out.rows
            have HK1 := Lib.hid hk1; have HK2 := Lib.hid hk2; have HK3 := Lib.hid hk3
            have HRW : Hid (rows.length ≤ 1000) := Lib.hid (by have := HOK.out.rl; have := HOK.out.met.len; have := HN.out; simp only [] at *; omega)
            obtain ⟨d0, d1, d2, f0, f1, f2'⟩ := three_atL HW.out.out
            have HOT := Lib.hid HW.out.out
            have p8 : (1 : Int) ≤ (xs9.length : Int) + 1 := by omega
            have hDz : D ≤ w7.heap.size := by have := HDR7.out; omega
            clear hque hqd hxs9 hk1 hk2 hk3 HX
            have HCU : Hid (∀ d, d < M.s → (Er.map (Value.int .i64)).toArray[d]? = some (.int .i64 (gi Er d))) := Lib.hid (fun d hd => by
              have hl : d < Er.length := by rw [HER.out.1]; exact hd
              rw [List.getElem?_toArray, List.getElem?_map, List.getElem?_eq_getElem hl, gi_eq hl]; rfl)
            by_cases hk9 : k9 = 1
            all_goals
              go_wp2_with (at_builtin; refine wpList_append1g rfl (.tmp 94) (.tmp 96) _ rfl 44 i1 _ Tryd.underlying22 hi1 hy0 hy1 (by omega) rfl D (.slice AN rows.length cN) KC (.slice (some ⟨w7.heap.size, 0, none⟩) M.s M.s) rfl rfl rfl HK2.out (by have := HK1.out; have := HRW.out; omega) (by have := HZR.out; omega) ?_; intro v11 w11 hown11 hgr11 hloc11; obtain ⟨A11, n11, c11, e11⟩ : ∃ A n c, v11 = .slice A n c := (by obtain ⟨A', c', e, _⟩ := own_shape hown11; exact ⟨A', _, c', e⟩); subst e11; have hOb : w11.heap[w4.heap.size]? = wr.heap[w4.heap.size]? := hgr11.block _ (by have := HDR7.out; have := HZR.out; omega) (fun e => by have h1 := HW.out.rows.lt e.symm; have := HDD.out; omega); have s5 : w11.cell? ⟨w4.heap.size, 1, none⟩ = some (.slice AN rows.length cN) := (World.cell?_of_block (a := ⟨w4.heap.size, 1, none⟩) hOb).trans d1; have s6 : w11.frozen? ⟨w4.heap.size, 1, none⟩ = false := (World.frozen?_of_block (a := ⟨w4.heap.size, 1, none⟩) hOb).trans f1)
              have hpop := (HW.out.addN (gk := w7.heap.size) (m := M.s) (cap := M.s) (K := Er) (cu := (Er.map (Value.int .i64)).toArray) HK1.out HK3.out hDz HNQ.out HBR.out HER.out.1 HCU.out hgr11 hown11).pop HQD.out HXS9.out rfl
              first
                | rw [if_pos hk9, hk9] at hpop
                | rw [if_neg hk9] at hpop
              have HPOP := Lib.hid hpop
              clear hpop hown11 hgr11 hloc11
              go_roundg f
              case measure => omega
              case rel => exact ⟨a + 1, _, _, by omega, by rw [HSTP.out]; exact HPOP⟩
    · have hend := bfs_end HO.out (Nat.le_of_not_lt ha)
      have HEN : Hid (M.least = ⟨M.sg, (bfs M M.eqB a).rows, (bfs M M.eqB a).tks⟩) := Lib.hid (by rw [hend]; rfl)
      have HRL : Hid ((bfs M M.eqB a).rows.length = M.least.n) := Lib.hid (by rw [HEN.out])
      have HTL : Hid ((bfs M M.eqB a).tks.length = M.least.n) := Lib.hid (by rw [HEN.out]; have h1 := hok.rl; have h2 := hok.tl; show _ = (bfs M M.eqB a).rows.length; omega)
      have hx := HR.out
      have hque := hx.que
      have hdr : ((bfs M M.eqB a).met.drop a).map (fun x : Nat => (x : Int)) = [] := by rw [List.drop_eq_nil_of_le (Nat.le_of_not_lt ha)]; rfl
      rw [hdr] at hque
      obtain ⟨gq, oq, cq, cu, hqv, _⟩ := hque
      subst hqv
      obtain ⟨AN, cN, hvN⟩ := hx.rows.shape
      subst hvN
      obtain ⟨AT, cT, hvT, _⟩ := own_shape hx.tks
      subst hvT
      generalize (bfs M M.eqB a).rows = rows at *
      generalize (bfs M M.eqB a).tks = tks at *
      have HTB := Lib.hid (bls_of_own hx.tks (by rw [List.length_map]))
      have HLOW := Lib.hid (HB4.out.trans (hx.low.mono (by have := HB4.out.size; omega)))
      obtain ⟨d0, d1, d2, f0, f1, f2⟩ := three_atL hx.out
      rw [List.length_map] at d2 HTB
      have hgw : w1.heap.size < w2.heap.size := by have := HS2.out; have := HG.out; omega
      have HGW := Lib.hid hgw
      have HRr : Hid (wr.heap[w1.heap.size]? = some (.cells #[S [], .slice none 0 0, .slice none 0 0] 25 (0, 0))) := Lib.hid ((HLOW.out.block w1.heap.size hgw).trans HR2.out)
      obtain ⟨r0, r1, r2, g0, g1, g2⟩ := three_atL HRr.out
      have HA := Lib.hid ha
      have HKZ := Lib.hid hx.rows
      have HDL : Hid (w1.heap.size < D) := Lib.hid (by have := HDD.out; have := HB4.out.size; omega)
      have HTO : Hid (wr.ownsRow D 4 1 (.slice AT tks.length cT) tks.length (tks.map Value.bool)) := Lib.hid (by have := hx.tks; rwa [List.length_map] at this)
      have HRO := Lib.hid hx.low
      have HHR := Lib.hid HRL.out
      have HFIN := Lib.hid (HB2.out.trans (HLOW.out.mono (by have := HS2.out; omega)))
      clear hok hend hx hdr hgw ha HR HRL
      go_wp2_with fail
      refine bodyPost_ret (res_cell_tmp rfl _ _ w1.heap.size 25 _ (0, 0) _ rfl (set3L HRr.out) Tryd.underlying25 rfl (by kernel_rfl)) rfl ?_
      have hgd := HDL.out
      have hz := HG.out
      have HGR := ((grown_set wr w1.heap.size 0 (S M.sg)).trans (grown_set (wr.setCell ⟨w1.heap.size, 0, none⟩ (S M.sg)) w1.heap.size 1 (.slice AN rows.length cN))).trans (grown_set ((wr.setCell ⟨w1.heap.size, 0, none⟩ (S M.sg)).setCell ⟨w1.heap.size, 1, none⟩ (.slice AN rows.length cN)) w1.heap.size 2 (.slice AT tks.length cT))
      have hKZ := HKZ.out.grown HGR (fun k hk hd => by injection hk with hk; omega) (fun k cur hk hd => by injection hk with hk; omega)
      have hTO := HTO.out.kept HGR (by
        cases hv : (Value.slice AT tks.length cT).ownBlock with
        | none => exact .inl rfl
        | some k =>
          right
          have h1 := HTO.out.lt k hv
          intro e; injection e with e; omega)
      refine ⟨⟨AN, cN, AT, cT, ?_, ?_⟩, ?_⟩
      · rw [HHR.out, HTL.out]; rfl
      · have hR := hKZ.rows
        have hT := bls_of_own (T := tks) (by rw [List.length_map]; exact hTO) rfl
        rw [HEN.out]
        have e1 : (⟨M.sg, rows, tks⟩ : Mc).n = M.least.n := by rw [HEN.out]
        rw [e1]
        refine ⟨?_, ?_⟩
        · rw [← HHR.out]; exact hR
        · rw [← HTL.out]; exact hT
      · exact ((HFIN.out.setCell (p := ⟨w1.heap.size, 0, none⟩) (by show w.heap.size ≤ w1.heap.size; omega) _).setCell (p := ⟨w1.heap.size, 1, none⟩) (by show w.heap.size ≤ w1.heap.size; omega) _).setCell (p := ⟨w1.heap.size, 2, none⟩) (by show w.heap.size ≤ w1.heap.size; omega) _
end Go.Proofs.YtfglajddibjnjaaDoor
