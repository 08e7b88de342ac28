/- package least's Any, at every machine. No condition. -/
import Derived.Test.YtfglajddibjnjaaDoorLsU
import Derived.Test.YtfglajddibjnjaaDoorLsQ
namespace Go.Proofs.YtfglajddibjnjaaDoor
open Go.RowKit IntWalk Go.Maps
set_option linter.unusedSimpArgs false
attribute [local go_sem] byte_at str_app
attribute [local go_sem ↓] Go.wp_at_zero Go.wp_at_succ

theorem info_strL : (Tryd.prog.info? 9).map (fun i => (i.zero, i.size, i.bytes)) = some (some (S []), 1, 16) := by kernel_rfl
/-- The round's memory: the queue, the texts, what was seen. -/
structure AnR (M : Mc) (wo : World) (g D a : Nat) (Q : List (Nat × List UInt8)) (Sn : List Nat) (T : List (List UInt8)) (E : List Bool) (qv : Value) (w : World) : Prop where
  que : OwnQ w D 3 qv (Q.map fun p => (p.1 : Int))
  txt : Blk w g 9 (T.map S)
  seen : Blk w (g + 1) 4 (E.map Value.bool)
  tx : Tx M T E Q Sn
  vs : Vs M a Q Sn
  low : Below g wo w
  lt : g + 2 = D

/-- A state is seen, and its text stored: the memory behind both stores. -/
theorem AnR.sets {M : Mc} {wo : World} {g D a : Nat} {Q : List (Nat × List UInt8)} {Sn : List Nat} {T : List (List UInt8)} {E : List Bool} {qv : Value} {w : World} (h : AnR M wo g D a Q Sn T E qv w) (t : Nat) (y : List UInt8) :
    OwnQ ((w.setCell ⟨g + 1, t, none⟩ (.bool true)).setCell ⟨g, t, none⟩ (S y)).drew D 3 qv (Q.map fun p => (p.1 : Int)) ∧ Blk ((w.setCell ⟨g + 1, t, none⟩ (.bool true)).setCell ⟨g, t, none⟩ (S y)).drew g 9 ((T.set t y).map S) ∧
      Blk ((w.setCell ⟨g + 1, t, none⟩ (.bool true)).setCell ⟨g, t, none⟩ (S y)).drew (g + 1) 4 ((E.set t true).map Value.bool) ∧ Below g wo ((w.setCell ⟨g + 1, t, none⟩ (.bool true)).setCell ⟨g, t, none⟩ (S y)).drew := by
  have hD := h.lt
  refine ⟨?_, ?_, ?_, ?_⟩
  · refine h.que.same fun k hk => ?_
    have hk2 := (h.que.lt hk).1
    show ((w.setCell ⟨g + 1, t, none⟩ (.bool true)).setCell ⟨g, t, none⟩ (S y)).heap[k]? = _
    rw [Below.heap_setCell _ _ _ _ (show k ≠ g by omega), Below.heap_setCell _ _ _ _ (show k ≠ g + 1 by omega)]
  · rw [List.map_set]
    exact ((h.txt.far (p := ⟨g + 1, t, none⟩) (show g ≠ g + 1 by omega) _).set_ t (S y)).drew
  · rw [List.map_set]
    exact ((h.seen.set_ t (.bool true)).far (p := ⟨g, t, none⟩) (show g + 1 ≠ g by omega) _).drew
  · exact ((h.low.setCell (p := ⟨g + 1, t, none⟩) (show g ≤ g + 1 by omega) _).setCell (p := ⟨g, t, none⟩) (Nat.le_refl _) _).drew
/-- And appended to the queue. -/
theorem AnR.next {M : Mc} {wo : World} {g D a : Nat} {Q : List (Nat × List UInt8)} {Sn : List Nat} {T : List (List UInt8)} {E : List Bool} {qv v' : Value} {w w6 w' : World} {t : Nat} {y : List UInt8} (h : AnR M wo g D a Q Sn T E qv w)
    (h6 : OwnQ w6 D 3 qv (Q.map fun p => (p.1 : Int)) ∧ Blk w6 g 9 ((T.set t y).map S) ∧ Blk w6 (g + 1) 4 ((E.set t true).map Value.bool) ∧ Below g wo w6)
    (hq : OwnQ w' D 3 v' ((Q.map fun p => (p.1 : Int)) ++ [(t : Int)])) (hg : w6.grownBy w' qv.ownBlock) (ht : t < M.n) (hn : t ∉ Sn) (hy : y.length ≤ Sn.length) :
    AnR M wo g D a (Q ++ [(t, y)]) (Sn ++ [t]) (T.set t y) (E.set t true) v' w' := by
  have hD := h.lt
  obtain ⟨k, hk⟩ := h6.1.some
  have hk2 := (h6.1.lt hk).1
  refine ⟨by rw [List.map_append]; exact hq, h6.2.1.grown hg (by rw [hk]; intro e; injection e with e; omega), h6.2.2.1.grown hg (by rw [hk]; intro e; injection e with e; omega), h.tx.add h.vs ht hn, h.vs.add ht hn hy, h6.2.2.2.grown hg ?_ ?_, h.lt⟩
  · have := h6.2.1.lt; omega
  · intro k' hk'
    rw [hk] at hk'; injection hk' with e; omega

set_option maxRecDepth 100000 in
set_option maxHeartbeats 4000000 in
theorem any_err (M : Mc) (A A2 : Option Addr) (n c m c2 B : Nat) (w : World) (hM : MacW w B A n A2 m M) (hB : B ≤ w.heap.size) (hw : M.wrong ≠ 0) :
    Calls Tryd.prog 11 #[mcv M.sg A n c A2 m c2] w fun e w' => e = .returned (.tuple #[S [], errV M.wrong]) ∧ Below w.heap.size w w' := by
  obtain ⟨c0, c1, c2'⟩ := mac_cells w M.sg A n c A2 m c2 25
  generalize hw1 : w.alloc (.cells #[S M.sg, .slice A n c, .slice A2 m c2] 25) = w1 at *
  have HB1 : Hid (Below w.heap.size w w1) := Lib.hid (by rw [← hw1]; exact (Below.refl _ w).alloc (Nat.le_refl _) _)
  have HCK := Lib.hid (mcheck_any M A A2 n c m c2 B w1 (hM.below (HB1.out.mono hB)) (by have := HB1.out.size; omega))
  rw [err_ne hw] at HCK
  have HW := Lib.hid hw
  clear hM hB hw
  go_enter Tryd.func11, Tryd.ntmps11
  go_wp2_with fail
  refine HCK.out.mono ?_
  rintro e w3 ⟨rfl, hb3⟩
  have HB3 := Lib.hid (HB1.out.trans (hb3.mono HB1.out.size))
  clear hb3 HCK hw1 c0 c1 c2'
  go_wp2_with fail
  go_ret2
  exact ⟨by rw [err_ne HW.out]; rfl, HB3.out⟩

set_option maxRecDepth 100000 in
set_option maxHeartbeats 8000000 in
theorem any_ok (M : Mc) (hMo : M.Ok) (A A2 : Option Addr) (n c m c2 B : Nat) (w : World) (hM : MacW w B A n A2 m M) (hB : B ≤ w.heap.size) :
    Calls Tryd.prog 11 #[mcv M.sg A n c A2 m c2] w fun e w' => (∃ r, Run M [(0, [])] [0] r ∧ e = .returned (match r with | some x => .tuple #[S x, .nilIface] | none => .tuple #[S [], errV 5])) ∧ Below w.heap.size w w' := by
  obtain ⟨i0, hi0, hz0, hz1, hz2⟩ := info_parts info_intL
  obtain ⟨i1, hi1, hy0, hy1, hy2⟩ := info_parts info_strL
  obtain ⟨i2, hi2, hx0, hx1, hx2⟩ := info_parts info_boolL
  have hn := hM.n_eq
  have hm := hM.m_eq
  obtain rfl : m = n := by have := hMo.tak; omega
  have hm1000 : m ≤ 1000 := by have := hMo.small; omega
  have hm0 : 0 < m := by have := hMo.pos; omega
  have hmkS := fun W => mk_ints (P := Tryd.prog) Tryd.underlying48 hi1 hy0 hy1 rfl (by omega) m (by omega) W
  have hmkB := fun W => mk_ints (P := Tryd.prog) Tryd.underlying23 hi2 hx0 hx1 rfl (by omega) m (by omega) W
  obtain ⟨c0, c1, c2'⟩ := mac_cells w M.sg A m c A2 m c2 25
  generalize hw1 : w.alloc (.cells #[S M.sg, .slice A m c, .slice A2 m c2] 25) = w1 at *
  have HZ1 : w1.heap.size = w.heap.size + 1 := by rw [← hw1]; simp
  have HB1 : Hid (Below w.heap.size w w1) := Lib.hid (by rw [← hw1]; exact (Below.refl _ w).alloc (Nat.le_refl _) _)
  have HM1 := Lib.hid (hM.below (HB1.out.mono hB))
  have HCK := Lib.hid (mcheck_any M A A2 m c m c2 B w1 HM1.out (by have := HB1.out.size; omega))
  rw [Mc.wrong_zero.2 hMo, show errV 0 = .nilIface from rfl] at HCK
  have HG := Lib.hid HZ1; have HB := Lib.hid hB; have HO := Lib.hid hMo; have HN := Lib.hid hn
  have HKC := Lib.hid (And.intro c0 (And.intro c1 c2'))
  clear hM hB hn hm hMo HZ1
  go_enter Tryd.func11, Tryd.ntmps11
  go_wp2_with fail
  clear hw1 c0 c1 c2'
  refine HCK.out.mono ?_
  rintro e w3 ⟨rfl, hb3⟩
  have HB3 := Lib.hid hb3
  have HC3 : Hid (∀ W, Below w3.heap.size w3 W → W.cell? ⟨w.heap.size, 0, none⟩ = some (S M.sg) ∧ W.cell? ⟨w.heap.size, 1, none⟩ = some (.slice A m c) ∧ W.cell? ⟨w.heap.size, 2, none⟩ = some (.slice A2 m c2)) := Lib.hid fun W hb =>
    have hs := HG.out
    have hbb : Below w1.heap.size w1 W := HB3.out.trans (hb.mono HB3.out.size)
    ⟨(hbb.cell (p := ⟨w.heap.size, 0, none⟩) (by show w.heap.size < w1.heap.size; omega)).trans HKC.out.1, (hbb.cell (p := ⟨w.heap.size, 1, none⟩) (by show w.heap.size < w1.heap.size; omega)).trans HKC.out.2.1, (hbb.cell (p := ⟨w.heap.size, 2, none⟩) (by show w.heap.size < w1.heap.size; omega)).trans HKC.out.2.2⟩
  obtain ⟨_, a1, _⟩ := HC3.out w3 (Below.refl _ _)
  have b1 : ∀ o, (w3.alloc o).cell? ⟨w.heap.size, 1, none⟩ = some (.slice A m c) := fun o => (HC3.out _ ((Below.refl _ w3).alloc (Nat.le_refl _) o)).2.1
  have q1 : (0 : Int) < (m : Int) := by omega
  have HST : Hid (AnR M w3 w3.heap.size (w3.heap.size + 2) 0 [(0, [])] [0] (List.replicate m []) ((List.replicate m false).set 0 true) (.slice (some ⟨w3.heap.size + 1 + 1, 0, none⟩) 1 1) (((w3.alloc (.cells (Array.replicate m (S [])) 9)).alloc (.cells ((Array.replicate m (Value.bool false)).setIfInBounds 0 (Value.bool true)) 4)).alloc (.cells #[.int .i64 0] 3))) := Lib.hid (by
    have et : Array.replicate m (S []) = ((List.replicate m ([] : List UInt8)).map S).toArray := by rw [List.map_replicate, List.toArray_replicate]
    have ee : (Array.replicate m (Value.bool false)).setIfInBounds 0 (Value.bool true) = (((List.replicate m false).set 0 true).map Value.bool).toArray := by rw [List.map_set, List.map_replicate, ← List.toArray_replicate, List.setIfInBounds_toArray]
    rw [et, ee]
    have h1 := ((Blk.new w3 9 ((List.replicate m ([] : List UInt8)).map S)).alloc (.cells (((List.replicate m false).set 0 true).map Value.bool).toArray 4)).alloc (.cells #[.int .i64 0] 3)
    have h2 := (Blk.new (w3.alloc (.cells ((List.replicate m ([] : List UInt8)).map S).toArray 9)) 4 (((List.replicate m false).set 0 true).map Value.bool)).alloc (.cells #[.int .i64 0] 3)
    rw [World.size_alloc] at h2
    have h3 := heap_alloc_new ((w3.alloc (.cells ((List.replicate m ([] : List UInt8)).map S).toArray 9)).alloc (.cells (((List.replicate m false).set 0 true).map Value.bool).toArray 4)) (.cells #[.int .i64 0] 3)
    rw [World.size_alloc, World.size_alloc] at h3
    refine ⟨⟨w3.heap.size + 1 + 1, 0, 1, #[.int .i64 0], rfl, by omega, h3, Nat.le_refl _, by simp, fun j hj => ?_⟩, h1, h2, by rw [← HN.out]; exact Tx.start HO.out, Vs.start HO.out, ((((Below.refl w3.heap.size w3).alloc (Nat.le_refl _) _).alloc (by simp) _).alloc (by simp; omega) _), rfl⟩
    obtain rfl : j = 0 := by simpa using hj
    rfl)
  clear hb3 HCK
  go_wp2_with fail
  clear a1 b1
  generalize (((w3.alloc (.cells (Array.replicate m (S [])) 9)).alloc (.cells ((Array.replicate m (Value.bool false)).setIfInBounds 0 (Value.bool true)) 4)).alloc (.cells #[.int .i64 0] 3)) = w4 at *
  have HD : Hid (w3.heap.size + 2 = w3.heap.size + 1 + 1) := Lib.hid rfl
  go_loopg [7] m (fun f qv wr => ∃ (a : Nat) (Q : List (Nat × List UInt8)) (Sn : List Nat) (T : List (List UInt8)) (E : List Bool), a + f = m ∧ Hid (AnR M w3 w3.heap.size (w3.heap.size + 2) a Q Sn T E qv wr) ∧ Hid (∀ r, Run M Q Sn r → Run M [(0, [])] [0] r))
  case atStart => exact ⟨0, _, _, _, _, by omega, HST, Lib.hid fun r h => h⟩
  case round =>
    clear HST
    obtain ⟨a, Q, Sn, T, E, haf, HR, HRUN⟩ := hrel
    cases Q with
    | nil =>
      have hx := HR.out
      obtain ⟨gq, oq, cq, cu, hqv, _⟩ := hx.que
      subst hqv
      have HLOW := Lib.hid (HB1.out.trans (HB3.out.mono HB1.out.size) |>.trans (hx.low.mono (by have := HB1.out.size; have := HB3.out.size; omega)))
      have HRR := Lib.hid (HRUN.out _ (.nil _))
      clear hx HR HRUN
      go_wp2_with fail
      go_ret2
      exact ⟨⟨none, HRR.out, rfl⟩, HLOW.out⟩
    | cons p Q =>
      obtain ⟨i, x⟩ := p
      have hx := HR.out
      have hfew := hx.vs.few
      rw [List.length_cons] at hfew
      obtain ⟨f, rfl⟩ : ∃ f, gk = f + 1 := ⟨gk - 1, by have := HN.out; omega⟩
      have him : i < m := by have := hx.vs.lt i (hx.vs.qs (i, x) (List.mem_cons_self)); have := HN.out; omega
      have hque := hx.que
      rw [List.map_cons] at hque
      generalize hxs : Q.map (fun p => (p.1 : Int)) = xs at *
      obtain ⟨gq, oq, cq, hqv, hq0⟩ := hque.head
      subst hqv
      have HB13 := Lib.hid (HB1.out.trans (HB3.out.mono HB1.out.size))
      have hz13 : w.heap.size ≤ w3.heap.size := HB13.out.size
      have HLW := Lib.hid hx.low
      have HLOW := Lib.hid (HB13.out.trans (hx.low.mono hz13))
      obtain ⟨a0, a1, a2⟩ := HC3.out wr hx.low
      have HMr := Lib.hid ((HM1.out.below (HB3.out.mono (by have := HB.out; have := HB1.out.size; omega))).below (hx.low.mono (by have := HB.out; omega)))
      obtain ⟨b2, o2, hA2, _, ct⟩ := HMr.out.tks.at_ him
      subst hA2
      have hti : T[i]? = some x := hx.tx.at_ (i, x) List.mem_cons_self
      have t0 : wr.cell? ⟨w3.heap.size, i, none⟩ = some (S x) := by rw [hx.txt.cell i, List.getElem?_map, hti]; rfl
      have p1 : (0 : Int) < (xs.length : Int) + 1 := by omega
      have p2 : (i : Int) < (m : Int) := by omega
      have HXS := Lib.hid hxs; have HQU := Lib.hid hque
      by_cases hb : bo M.tk i = true
      · rw [hb] at ct
        have HRR := Lib.hid (HRUN.out _ (.hit Q Sn hb))
        clear hx HR HRUN hfew hque hxs hti hb
        go_wp2_with fail
        go_ret2
        exact ⟨⟨some x, HRR.out, rfl⟩, HLOW.out⟩
      · have hb' : bo M.tk i = false := by simpa using hb
        rw [hb'] at ct
        have HRS : Hid (∀ r, Run M (pushG M i x Q Sn M.s).1 (pushG M i x Q Sn M.s).2 r → Run M [(0, [])] [0] r) := Lib.hid fun r h => HRUN.out r (.step hb' h)
        obtain ⟨b3, o3, a3, m3, c3, hA3, _, cr, hI⟩ := HMr.out.rows.at_ him
        subst hA3
        obtain rfl : m3 = M.s := hI.1.symm.trans (HO.out.row i (by rw [HN.out]; exact him))
        have HI := Lib.hid hI
        have HTI := Lib.hid hti
        have HIM := Lib.hid him
        have HS0 : Hid (AnR M w3 w3.heap.size (w3.heap.size + 2) a ((i, x) :: (pushG M i x Q Sn 0).1) (pushG M i x Q Sn 0).2 T E (.slice (some ⟨gq, oq, none⟩) (xs.length + 1) cq) wr) := Lib.hid hx
        clear hx HRUN hfew hque hxs hti hb hb' hI
        go_wp2_with fail
        clear a0 a1 a2 t0 ct cr HR
        go_loopg [7, 50] M.s (fun f2 qv iv wx => ∃ (d : Nat) (T : List (List UInt8)) (E : List Bool), d + f2 = M.s ∧ iv = .int .i64 (d : Int) ∧ Hid (AnR M w3 w3.heap.size (w3.heap.size + 2) a ((i, x) :: (pushG M i x Q Sn d).1) (pushG M i x Q Sn d).2 T E qv wx))
        case atStart => exact ⟨0, _, _, by omega, rfl, HS0⟩
        case round =>
          clear HS0
          obtain ⟨d, T, E, hdf, rfl, HX⟩ := hrel
          by_cases hld : d < M.s
          · obtain ⟨f2, rfl⟩ : ∃ f, gk = f + 1 := ⟨gk - 1, by omega⟩
            have hx := HX.out
            have hque := hx.que
            rw [List.map_cons] at hque
            generalize hxs : ((pushG M i x Q Sn d).1).map (fun p => (p.1 : Int)) = ys at *
            obtain ⟨g9, o9, k9, hqv, _⟩ := hque.head
            subst hqv
            clear hque
            have hil : i < M.n := by have := HIM.out; have := HN.out; omega
            have hst := HO.out.st_eq hil hld
            have hsl := HO.out.st_lt hil hld
            have hslm : M.st i d < m := by have := HN.out; omega
            have hbx : Below w3.heap.size w3 wr := hx.low
            obtain ⟨a0, a1, a2⟩ := HC3.out wr hbx
            obtain ⟨b4, o4, ha4, _, ce⟩ := (HI.out.keep (w' := wr) (fun p hp => (hbx.cell (by have := HB.out; have := HG.out; have := HB3.out.size; omega)).trans (HLW.out.cell (by have := HB.out; have := HG.out; have := HB3.out.size; omega)).symm)).at_ hld
            subst ha4
            rw [hst] at ce
            have p3 : (d : Int) < (M.s : Int) := by omega
            have p4 : IntKind.i64.wrap ((d : Int) + 1) = (d : Int) + 1 := i64_in _ (by have := HO.out.few; omega)
            have p5 : (M.st i d : Int) < (m : Int) := by omega
            have hel : M.st i d < E.length := by rw [hx.tx.el]; exact hsl
            have s1 : wr.cell? ⟨w3.heap.size + 1, M.st i d, none⟩ = some (.bool (bo E (M.st i d))) := by rw [hx.seen.cell (M.st i d), List.getElem?_map, List.getElem?_eq_getElem hel, ← bo_eq hel]; rfl
            by_cases hin : M.st i d ∈ (pushG M i x Q Sn d).2
            · have hbe : bo E (M.st i d) = true := (hx.tx.se _ hsl).2 hin
              rw [hbe] at s1
              have HNX : Hid (AnR M w3 w3.heap.size (w3.heap.size + 2) a ((i, x) :: (pushG M i x Q Sn (d + 1)).1) (pushG M i x Q Sn (d + 1)).2 T E (.slice (some ⟨g9, o9, none⟩) (ys.length + 1) k9) wr) := Lib.hid (by rw [pushG_in hin]; exact hx)
              generalize M.st i d = t at *
              clear hx HX hst hin hbe hxs
              go_wp2_with fail
              go_roundg f2
              case measure => omega
              case rel => exact ⟨d + 1, _, _, by omega, by simp, HNX⟩
            · have hbe : bo E (M.st i d) = false := by
                cases hb : bo E (M.st i d) with
                | false => rfl
                | true => exact absurd ((hx.tx.se _ hsl).1 hb) hin
              rw [hbe] at s1
              have s2 : wr.frozen? ⟨w3.heap.size + 1, M.st i d, none⟩ = false := hx.seen.frozen _
              have HIN := Lib.hid hin
              have HPO := Lib.hid (pushG_out hin)
              generalize M.st i d = t at *
              clear hst hin hbe
              go_upto_region 18 with fail
              have HW6 := Lib.hid (hx.sets t (x ++ [bu M.sg d]))
              generalize hw5 : wr.setCell ⟨w3.heap.size + 1, t, none⟩ (.bool true) = w5 at *
              have hb5 : w5.heap[w3.heap.size]? = wr.heap[w3.heap.size]? := by rw [← hw5]; exact (grown_set wr (w3.heap.size + 1) t (.bool true)).block w3.heap.size (by have := hx.txt.lt; omega) (by simp)
              have ht5 : Blk w5 w3.heap.size 9 (T.map S) := hb5.trans hx.txt
              have hti : T[i]? = some x := hx.tx.at_ (i, x) List.mem_cons_self
              have t0 : w5.cell? ⟨w3.heap.size, i, none⟩ = some (S x) := by rw [ht5.cell i, List.getElem?_map, hti]; rfl
              have t1 : w5.frozen? ⟨w3.heap.size, t, none⟩ = false := ht5.frozen _
              have htt : t < T.length := by rw [hx.tx.tl]; exact hsl
              obtain ⟨tt, htt2⟩ : ∃ tt, T[t]? = some tt := ⟨_, List.getElem?_eq_getElem htt⟩
              have t2 : w5.cell? ⟨w3.heap.size, t, none⟩ = some (S tt) := by rw [ht5.cell t, List.getElem?_map, htt2]; rfl
              have HTT := Lib.hid htt
              have a0' : w5.cell? ⟨w.heap.size, 0, none⟩ = some (S M.sg) := by rw [← hw5]; exact (World.cell?_setCell_far wr ⟨w3.heap.size + 1, t, none⟩ ⟨w.heap.size, 0, none⟩ _ (by show w3.heap.size + 1 ≠ w.heap.size; omega)).trans a0
              have hdl : d < M.sg.length := hld
              have hex : (ByteArray.mk M.sg.toArray).extract d (d + 1) = ByteArray.mk [bu M.sg d].toArray := by
                rw [Lib.extract_eq]
                congr 1
                have h1 : M.sg.drop d = bu M.sg d :: M.sg.drop (d + 1) := by rw [List.drop_eq_getElem_cons hdl]; unfold bu; rw [List.getElem?_eq_getElem hdl]; rfl
                simp [h1]
              have hxl : x.length < 1000 := by have h1 := hx.vs.ln_n (q := (i, x)) List.mem_cons_self; have h2 := HN.out; simp only at h1; omega
              have HXL := Lib.hid hxl
              have hc1 : ¬ 9223372036854775807 < x.length + 1 := by omega
              have hxsl : x.length + 1 ≤ (pushG M i x Q Sn d).2.length := hx.vs.ln (i, x) List.mem_cons_self
              have hyl : ys.length ≤ 1000 := by have h1 := hx.vs.few; have h2 := HN.out; have h3 := congrArg List.length hxs; rw [List.length_cons] at h1; rw [List.length_map] at h3; omega
              have HX0 := Lib.hid hx
              have HXSL := Lib.hid hxsl
              have HYL := Lib.hid hyl
              have HYS := Lib.hid hxs
              have HSL := Lib.hid hsl
              clear hx HX hxs hxl htt htt2 hxsl hyl hel hil HIM HTI him a0 a1 a2 s1 s2 ce hti hb5 ht5 hbx
              go_region
              have HLT6 : Hid (w3.heap.size + 1 < w5.heap.size) := Lib.hid (by have := HX0.out.seen.lt; have h2 := congrArg (fun W : World => W.heap.size) hw5; simp only [World.setCell, Array.size_modify] at h2; omega)
              generalize hw6 : (w5.setCell ⟨w3.heap.size, t, none⟩ (S (x ++ [bu M.sg d]))).drew = w6 at *
              clear hw5 hex hc1 t0 t1 t2 hdl hsl hslm a0'
              go_wp2_with (at_builtin; refine wpList_append_q (w := w6) rfl (.tmp 77) (.tmp 79) _ rfl 3 i0 _ Tryd.underlying44 hi0 hz0 hz1 (by omega) rfl (w3.heap.size + 2) _ _ (t : Int) rfl rfl HW6.out.1 (by rw [List.length_map, List.length_cons]; have h1 := HYL.out; have h2 := congrArg List.length HYS.out; rw [List.length_map] at h2; omega) (by have := HW6.out.2.2.1.lt; omega) ?_; intro v7 w7 hq7 hgr7 hl7)
              have HNX := Lib.hid (HX0.out.next HW6.out hq7 hgr7 HSL.out HIN.out (by rw [List.length_append]; exact HXSL.out))
              clear hq7 hgr7 hl7 HX0 HW6
              go_roundg f2
              case measure => omega
              case rel => exact ⟨d + 1, _, _, by omega, by simp, by rw [HPO.out]; exact HNX⟩
          · obtain rfl : d = M.s := by omega
            have p3 : ¬ (M.s : Int) < (M.s : Int) := by omega
            have hx := HX.out
            have hque := hx.que
            rw [List.map_cons] at hque
            generalize hxs : ((pushG M i x Q Sn M.s).1).map (fun p => (p.1 : Int)) = ys at *
            obtain ⟨g9, o9, k9, hqv, _⟩ := hque.head
            subst hqv
            have p8 : (1 : Int) ≤ (ys.length : Int) + 1 := by omega
            have htl := hque.tail
            have HP := Lib.hid (And.intro hx.txt (And.intro hx.seen (And.intro hx.tx.pop (And.intro hx.vs.pop (And.intro hx.low hx.lt)))))
            have HT := Lib.hid htl
            have HXS := Lib.hid hxs
            clear hx hque hxs htl HX
            by_cases hk9 : k9 = 1
            all_goals
              go_wp2_with fail
              go_roundg f
              case measure => omega
              case rel =>
                have ht := HT.out
                first
                  | rw [if_pos hk9, hk9] at ht
                  | rw [if_neg hk9] at ht
                exact ⟨a + 1, _, _, _, _, by omega, Lib.hid ⟨by rw [HXS.out]; exact ht, HP.out.1, HP.out.2.1, HP.out.2.2.1, HP.out.2.2.2.1, HP.out.2.2.2.2.1, rfl⟩, HRS⟩
end Go.Proofs.YtfglajddibjnjaaDoor
