/- The law's from: the machine that begins in another state. No condition. -/
import Derived.Test.YtfglajddibjnjaaLsD
import Derived.Test.YtfglajddibjnjaaLsN
namespace Go.Proofs.Ytfglajddibjnjaa
open Go.RowKit IntWalk
set_option linter.unusedSimpArgs false
attribute [local go_sem] byte_at str_app
attribute [local go_sem ↓] Go.wp_at_zero Go.wp_at_succ

theorem swapped_any (a i : Nat) (w : World) :
    Calls Try.prog 24 #[.int .i64 (a : Int), .int .i64 (i : Int)] w fun e w' => e = .returned (.int .i64 (sw a i : Int)) ∧ w = w' := by
  unfold sw
  by_cases h0 : i = 0
  · subst h0
    go_enter Try.func24, Try.ntmps24
    go_wp2_with fail
    go_ret
    exact ⟨by simp, rfl⟩
  · have q1 : ((i : Int) == 0) = false := by simp; omega
    by_cases h1 : i = a
    · subst h1
      have q2 : ((i : Int) == (i : Int)) = true := by simp
      rw [if_neg h0, if_pos rfl]
      go_enter Try.func24, Try.ntmps24
      go_wp2_with fail
      go_ret
      exact ⟨rfl, rfl⟩
    · have q2 : ((i : Int) == (a : Int)) = false := by simp; omega
      rw [if_neg h0, if_neg h1]
      go_enter Try.func24, Try.ntmps24
      go_wp2_with fail
      go_ret
      exact ⟨rfl, rfl⟩

theorem res_cell1 {P : Program} {fn : Func} {p : Tmp} {ty : TypeId} (h : fn.results = #[.cell p ty]) (tmps : Array Value) (w : World) (g : Nat) (t : TypeId) (cs : Array Value) (fr : Nat × Nat) (d : TypeDesc)
    (hp : tmps.getD p undef = .pointer (some ⟨g, 0, none⟩)) (hg : w.heap[g]? = some (.cells cs t fr))
    (hu : P.underlying ty = some d) (hd : (match d with | .struct _ | .array _ _ => true | _ => false) = true) (hi : (P.info? ty).map (·.size) = some cs.size) :
    (results fn tmps).run P w = .ok (.agg cs) w := by
  have hp' : tmps[p]?.getD undef = .pointer (some ⟨g, 0, none⟩) := by simpa using hp
  simp [results, h, hp', asAddr, run_loadVar_row w g t ty cs fr d hg hu hd hi]

set_option maxRecDepth 100000 in
set_option maxHeartbeats 8000000 in
theorem from_any (M : Mc) (hMo : M.Ok) (k : Nat) (hk : k < M.n) (A A2 : Option Addr) (n c m c2 B : Nat) (w : World) (hM : MacW w B A n A2 m M) (hB : B ≤ w.heap.size) :
    Calls Try.prog 12 #[mcv M.sg A n c A2 m c2, .int .i64 (k : Int)] w fun e w' => (∃ A' k' A2' k2', e = .returned (mcv M.sg A' M.n k' A2' M.n k2') ∧ MacW w' w'.heap.size A' M.n A2' M.n (M.frm k)) ∧ Below w.heap.size w w' := by
  obtain ⟨i0, hi0, hz0, hz1, hz2⟩ := info_parts info_intL
  obtain ⟨i1, hi1, hy0, hy1, hy2⟩ := info_parts info_rowsL
  obtain ⟨i2, hi2, hx0, hx1, hx2⟩ := info_parts info_boolL
  have hn := hM.n_eq
  have hm := hM.m_eq
  obtain rfl : m = n := by have := hMo.tak; omega
  have hm1000 : m ≤ 1000 := by have := hMo.small; omega
  have hs12 : M.s ≤ 12 := hMo.few
  obtain ⟨c0, c1, c2'⟩ := mac_cells w M.sg A m c A2 m c2 25
  have HO := Lib.hid hMo; have HN := Lib.hid hn; have HB := Lib.hid hB; have HM := Lib.hid hM; have HK := Lib.hid hk
  clear hMo hn hm hB hM hk
  go_enter Try.func12, Try.ntmps12
  have HST : Hid (OutR M.sg (((w.alloc (.cells #[S M.sg, .slice A m c, .slice A2 m c2] 25)).alloc (.cells #[S [], .slice none 0 0, .slice none 0 0] 25)).alloc (.cells #[S M.sg, .slice none 0 0, .slice none 0 0] 25)) (w.heap.size + 1 + 1) (w.heap.size + 3) [] [] (.slice none 0 0) (.slice none 0 0) (fun _ => True) (((w.alloc (.cells #[S M.sg, .slice A m c, .slice A2 m c2] 25)).alloc (.cells #[S [], .slice none 0 0, .slice none 0 0] 25)).alloc (.cells #[S M.sg, .slice none 0 0, .slice none 0 0] 25))) := Lib.hid (by
    have h := heap_alloc_new ((w.alloc (.cells #[S M.sg, .slice A m c, .slice A2 m c2] 25)).alloc (.cells #[S [], .slice none 0 0, .slice none 0 0] 25)) (.cells #[S M.sg, .slice none 0 0, .slice none 0 0] 25)
    rw [World.size_alloc, World.size_alloc] at h
    exact ⟨h, KY.nil _ _ _, World.ownsRow_nil _ _ _ _, Below.refl _ _, by omega⟩)
  have HR1 : Hid ((((w.alloc (.cells #[S M.sg, .slice A m c, .slice A2 m c2] 25)).alloc (.cells #[S [], .slice none 0 0, .slice none 0 0] 25)).alloc (.cells #[S M.sg, .slice none 0 0, .slice none 0 0] 25)).heap[w.heap.size + 1]? = some (.cells #[S [], .slice none 0 0, .slice none 0 0] 25 (0, 0))) := Lib.hid (by
    have h := heap_alloc_new (w.alloc (.cells #[S M.sg, .slice A m c, .slice A2 m c2] 25)) (.cells #[S [], .slice none 0 0, .slice none 0 0] 25)
    rw [World.size_alloc] at h
    exact ((World.grownBy_alloc _ _ none).block (w.heap.size + 1) (by simp) (by simp)).trans h)
  have HB3 : Hid (Below w.heap.size w (((w.alloc (.cells #[S M.sg, .slice A m c, .slice A2 m c2] 25)).alloc (.cells #[S [], .slice none 0 0, .slice none 0 0] 25)).alloc (.cells #[S M.sg, .slice none 0 0, .slice none 0 0] 25))) := Lib.hid ((((Below.refl _ w).alloc (Nat.le_refl _) _).alloc (by simp) _).alloc (by simp; omega) _)
  have HC3 : Hid ((((w.alloc (.cells #[S M.sg, .slice A m c, .slice A2 m c2] 25)).alloc (.cells #[S [], .slice none 0 0, .slice none 0 0] 25)).alloc (.cells #[S M.sg, .slice none 0 0, .slice none 0 0] 25)).heap[w.heap.size]? = some (.cells #[S M.sg, .slice A m c, .slice A2 m c2] 25 (0, 0))) := Lib.hid (by
    exact (((World.grownBy_alloc _ _ none).block w.heap.size (by simp; omega) (by simp)).trans ((World.grownBy_alloc _ _ none).block w.heap.size (by simp) (by simp))).trans (heap_alloc_new w _))
  go_wp2_with fail
  clear c0 c1 c2'
  generalize (((w.alloc (.cells #[S M.sg, .slice A m c, .slice A2 m c2] 25)).alloc (.cells #[S [], .slice none 0 0, .slice none 0 0] 25)).alloc (.cells #[S M.sg, .slice none 0 0, .slice none 0 0] 25)) = w3 at *
  generalize hgo : w.heap.size + 1 + 1 = gO at *
  generalize hgd : w.heap.size + 3 = D at *
  have HGO : Hid (gO = w.heap.size + 2 ∧ D = w.heap.size + 3) := Lib.hid ⟨by omega, by omega⟩
  clear hgo hgd
  go_loopg [6] m (fun f iv wr => ∃ (i : Nat) (vN vT : Value), i + f = m ∧ iv = .int .i64 (i : Int) ∧ Hid (OutR M.sg w3 gO D ((M.frm k).nx.take i) ((M.frm k).tk.take i) vN vT (fun _ => True) wr))
  case atStart => exact ⟨0, _, _, by omega, rfl, HST⟩
  case round =>
    clear HST
    obtain ⟨i, vN, vT, hif, rfl, HR⟩ := hrel
    have hx := HR.out
    have HCr : Hid (wr.heap[w.heap.size]? = some (.cells #[S M.sg, .slice A m c, .slice A2 m c2] 25 (0, 0))) := Lib.hid ((hx.low.block w.heap.size (by have := HGO.out; omega)).trans HC3.out)
    have HLOW := Lib.hid (HB3.out.trans (hx.low.mono (by have := HGO.out; omega)))
    obtain ⟨a0, a1, a2, _, _, _⟩ := three_atL HCr.out
    by_cases hli : i < m
    · obtain ⟨f, rfl⟩ : ∃ f, gk = f + 1 := ⟨gk - 1, by omega⟩
      have p1 : (i : Int) < (m : Int) := by omega
      have p2 : IntKind.i64.wrap ((i : Int) + 1) = (i : Int) + 1 := i64_in _ (by omega)
      have HT : Hid (sw k i < M.n) := Lib.hid (sw_lt HK.out (by have := HN.out; omega))
      have HFR := Lib.hid (Mc.frm_row (M := M) (a := k) (j := i) (by have := HN.out; omega))
      have HFT := Lib.hid (Mc.frm_tk (M := M) (a := k) (j := i) (by have := HN.out; omega))
      have HSN : Hid ((M.frm k).nx.take (i + 1) = (M.frm k).nx.take i ++ [ro (M.frm k).nx i] ∧ (M.frm k).tk.take (i + 1) = (M.frm k).tk.take i ++ [bo (M.frm k).tk i]) := Lib.hid ⟨take_succ_ro (by have h1 := Mc.frm_n M k; have h2 : (M.frm k).n = (M.frm k).nx.length := rfl; have := HN.out; omega), take_succ_bo (by show i < (List.map _ (List.range M.n)).length; simp; have := HN.out; omega)⟩
      have HSW := Lib.hid (fun W => swapped_any k i W)
      generalize sw k i = ti at *
      obtain ⟨b3, o3, a3, m3, c3, hA3, hb3, cr0, hI⟩ := HM.out.rows.at_ (k := ti) (by have := HT.out; have := HN.out; omega)
      subst hA3
      obtain rfl : m3 = M.s := hI.1.symm.trans (HO.out.row ti HT.out)
      have HROW : Hid (∀ W, Below w.heap.size w W → W.cell? ⟨b3, o3 + ti, none⟩ = some (.slice a3 M.s c3) ∧ Ints W B a3 M.s (ro M.nx ti)) := Lib.hid fun W hb => ⟨(hb.cell (p := ⟨b3, o3 + ti, none⟩) (Nat.lt_of_lt_of_le hb3 HB.out)).trans cr0, hI.keep fun p hp => hb.cell (Nat.lt_of_lt_of_le hp HB.out)⟩
      obtain ⟨b2, o2, hA2, hb2, ct0⟩ := HM.out.tks.at_ (k := ti) (by have := HT.out; have := HN.out; omega)
      subst hA2
      have HTAK : Hid (∀ W, Below w.heap.size w W → W.cell? ⟨b2, o2 + ti, none⟩ = some (.bool (bo M.tk ti))) := Lib.hid fun W hb => (hb.cell (p := ⟨b2, o2 + ti, none⟩) (Nat.lt_of_lt_of_le hb2 HB.out)).trans ct0
      have HB2 := Lib.hid hb2
      have HTL : Hid (ti < m) := Lib.hid (by have := HT.out; have := HN.out; omega)
      have p3 : (ti : Int) < (m : Int) := by have := HTL.out; omega
      have p4 : ti < m := HTL.out
      clear hI cr0 ct0 hb2 hb3
      have HX0 : Hid (OutR M.sg w3 gO D ((M.frm k).nx.take i) ((M.frm k).tk.take i) vN vT (fun b => (Value.slice none 0 0).ownBlock ≠ some b ∧ True) wr) := Lib.hid (hx.weak fun b _ _ => ⟨by simp [Value.ownBlock], trivial⟩)
      have HW0 : Hid (OwI wr D (.slice none 0 0) ((ro (M.frm k).nx i).take 0)) := Lib.hid (World.ownsRow_nil _ _ _ _)
      clear hx HR
      go_wp2_with fail
      refine (HSW.out _).mono ?_
      rintro e w' ⟨rfl, rfl⟩
      go_wp2_with fail
      clear a0 a1 a2
      go_loopg [8, 9] M.s (fun f2 rv iv wx => ∃ (d : Nat), d + f2 = M.s ∧ iv = .int .i64 (d : Int) ∧ Hid (OutR M.sg w3 gO D ((M.frm k).nx.take i) ((M.frm k).tk.take i) vN vT (fun b => rv.ownBlock ≠ some b ∧ True) wx) ∧ Hid (OwI wx D rv ((ro (M.frm k).nx i).take d)))
      case atStart => exact ⟨0, by omega, rfl, HX0, HW0⟩
      case round =>
        clear HX0 HW0
        obtain ⟨d, hdf, rfl, HX, HOW⟩ := hrel
        have hx := HX.out
        have hcr := (hx.low.block w.heap.size (by have := HGO.out; omega)).trans HC3.out
        obtain ⟨a0, a1, a2, _, _, _⟩ := three_atL hcr
        have hlow := HB3.out.trans (hx.low.mono (by have := HGO.out; omega))
        obtain ⟨cr, hI⟩ := HROW.out wr hlow
        by_cases hld : d < M.s
        · obtain ⟨f2, rfl⟩ : ∃ f, gk = f + 1 := ⟨gk - 1, by omega⟩
          have q1 : (d : Int) < (M.s : Int) := by omega
          have q2 : IntKind.i64.wrap ((d : Int) + 1) = (d : Int) + 1 := i64_in _ (by have := HO.out.few; omega)
          obtain ⟨b4, o4, ha4, _, ce⟩ := hI.at_ hld
          subst ha4
          rw [HO.out.st_eq HT.out hld] at ce
          have HSX := Lib.hid (fun W => swapped_any k (M.st ti d) W)
          have HNR : Hid ((ro (M.frm k).nx i).take (d + 1) = (ro (M.frm k).nx i).take d ++ [(sw k (M.st ti d) : Int)]) := Lib.hid (by
            rw [HFR.out]
            have hl : d < ((ro M.nx ti).map fun t => (sw k t.toNat : Int)).length := by rw [List.length_map, HO.out.row ti HT.out]; exact hld
            rw [List.take_succ_eq_append_getElem hl, List.getElem_map]
            congr 3
            unfold Mc.st gi
            rw [List.getElem?_eq_getElem (by rw [HO.out.row ti HT.out]; exact hld)]; rfl)
          have HDS : Hid (D ≤ wr.heap.size) := Lib.hid (by have := hx.gt; have := HGO.out; omega)
          have HLEN : Hid (((ro (M.frm k).nx i).take d).length ≤ 1000) := Lib.hid (by rw [List.length_take]; have := HO.out.few; omega)
          generalize sw k (M.st ti d) = x at *
          generalize M.st ti d = t2 at *
          generalize (ro (M.frm k).nx i).take d = K at *
          clear hx hcr hlow hI
          go_wp2_with fail
          refine (HSX.out _).mono ?_
          rintro e w' ⟨rfl, rfl⟩
          go_wp2_with (at_builtin; refine wpList_append1g rfl (.tmp 33) (.tmp 44) _ rfl 3 i0 _ Try.underlying39 hi0 hz0 hz1 (by omega) rfl D u8 (K.map (Value.int .i64)) (.int .i64 (x : Int)) rfl rfl rfl HOW.out (by rw [List.length_map]; have := HLEN.out; omega) HDS.out ?_; intro v9 w9 hown9 hgr9 hloc9)
          have HX9 := Lib.hid (((HX.out.turn hloc9).int HOW.out hgr9 (fun b hb h => h.1.1 hb)).weak (ok' := fun b => v9.ownBlock ≠ some b ∧ True) (fun b _ h => ⟨h.2, trivial⟩))
          have HOW9 : Hid (OwI w9 D v9 (K ++ [(x : Int)])) := Lib.hid (by show w9.ownsRow D 3 1 v9 _ _; rw [List.map_append]; exact hown9)
          clear hown9 hgr9 hloc9 HX HOW a0 a1 a2 cr ce
          go_roundg f2
          case measure => omega
          case rel => exact ⟨d + 1, by omega, by simp, HX9, by rw [HNR.out]; exact HOW9⟩
        · obtain rfl : d = M.s := by omega
          have q1 : ¬ (M.s : Int) < (M.s : Int) := by omega
          obtain ⟨AN, cN, hvN⟩ := hx.rows.shape
          subst hvN
          obtain ⟨AT, cT, hvT, _⟩ := own_shape hx.tks
          subst hvT
          have hfull : (ro (M.frm k).nx i).take M.s = ro (M.frm k).nx i := List.take_of_length_le (by rw [HFR.out, List.length_map, HO.out.row ti HT.out]; exact Nat.le_refl _)
          obtain ⟨Ar, cq, hvr, _⟩ := own_shape HOW.out
          rw [hfull, List.length_map, HFR.out, List.length_map, HO.out.row ti HT.out] at hvr
          subst hvr
          rw [hfull] at HOW
          have HW := Lib.hid (HX.out.weak (ok' := fun _ => True) (fun _ _ _ => trivial))
          have HRLN : Hid (((M.frm k).nx.take i).length ≤ 1000 ∧ ((M.frm k).tk.take i).length ≤ 1000) := Lib.hid (by rw [List.length_take, List.length_take]; omega)
          have HTS := Lib.hid (HTAK.out)
          generalize (M.frm k).nx.take i = R at *
          generalize (M.frm k).tk.take i = T at *
          generalize ro (M.frm k).nx i = K at *
          obtain ⟨KC, hk1, hk2, hk3⟩ := HW.out.rows
          have HK1 := Lib.hid hk1; have HK2 := Lib.hid hk2; have HK3 := Lib.hid hk3
          obtain ⟨d0, d1, d2, f0, f1, f2'⟩ := three_atL hx.out
          have HDS : Hid (D ≤ wr.heap.size ∧ gO < wr.heap.size) := Lib.hid ⟨by have := hx.gt; have := HGO.out; omega, hx.gt⟩
          clear hx hcr hlow hI hk1 hk2 hk3 hfull HX
          go_wp2_with (at_builtin; refine wpList_append1g rfl (.tmp 47) (.tmp 49) _ rfl 39 i1 _ Try.underlying22 hi1 hy0 hy1 (by omega) rfl D (.slice AN R.length cN) KC (.slice Ar M.s cq) rfl rfl rfl HK2.out (by have := HK1.out; have := HRLN.out; omega) HDS.out.1 ?_; intro v11 w11 hown11 hgr11 hloc11; obtain ⟨A11, n11, c11, e11⟩ : ∃ A n c, v11 = .slice A n c := (by obtain ⟨A', c', e, _⟩ := own_shape hown11; exact ⟨A', _, c', e⟩); subst e11; have hOb : w11.heap[gO]? = wr.heap[gO]? := hgr11.block _ HDS.out.2 (fun e => by have h1 := HW.out.rows.lt e.symm; have := HW.out.lt; omega); have s5 : w11.cell? ⟨gO, 1, none⟩ = some (.slice AN R.length cN) := (World.cell?_of_block (a := ⟨gO, 1, none⟩) hOb).trans d1; have s6 : w11.frozen? ⟨gO, 1, none⟩ = false := (World.frozen?_of_block (a := ⟨gO, 1, none⟩) hOb).trans f1)
          have HR := Lib.hid (HW.out.addN (K := K) HK1.out HK2.out HK3.out HOW.out (fun _ _ => trivial) hgr11 hown11)
          clear hown11 hgr11 hloc11 hOb s5 s6 d0 d1 d2 f0 f1 f2' a0 a1 a2 cr HW HOW HDS HK1 HK2 HK3
          generalize w11.setCell ⟨gO, 1, none⟩ (.slice A11 n11 c11) = wr at *
          have hx := HR.out
          obtain ⟨d0, d1, d2, _, _, f2⟩ := three_atL hx.out
          have hlow := HB3.out.trans (hx.low.mono (by have := HGO.out; omega))
          have hcr := (hx.low.block w.heap.size (by have := HGO.out; omega)).trans HC3.out
          obtain ⟨_, _, a2, _, _, _⟩ := three_atL hcr
          have ct := HTS.out wr hlow
          have hmap : (T.map Value.bool).length ≤ 1000 := by rw [List.length_map]; exact HRLN.out.2
          have HTL2 := Lib.hid hmap
          have htk := hx.tks
          have hTV0 : ∃ TV, T.map Value.bool = TV := ⟨_, rfl⟩
          obtain ⟨TV, hTV⟩ := hTV0
          rw [hTV] at d2 htk HTL2 HR
          have HTK := Lib.hid (show wr.ownsRow D 4 1 (.slice AT TV.length cT) TV.length TV from htk)
          have HTV := Lib.hid hTV
          have HTL := HTL2
          have HLT : Hid (w.heap.size < gO ∧ b2 < gO ∧ gO < D ∧ D ≤ wr.heap.size) := Lib.hid ⟨by have := HGO.out; omega, by have := HGO.out; have := HB.out; have := HB2.out; omega, hx.lt, by have := hx.gt; have := HGO.out; omega⟩
          have HBV := Lib.hid HFT.out
          generalize bo M.tk ti = bv at *
          clear hx hlow hcr hmap htk hTV HTL2 d0 d1
          go_upto_region 13 with fail
          have hRd := (HR.out.drewN 1 : OutR M.sg w3 gO D (R ++ [K]) T _ _ (fun _ => True) wr.drew)
          have hlt := HLT.out
          have s0 : wr.drew.cell? ⟨w.heap.size, 2, none⟩ = some (.slice (some ⟨b2, o2, none⟩) m c2) ∧ wr.drew.cell? ⟨b2, o2 + ti, none⟩ = some (.bool bv) := ⟨a2, ct⟩
          have s1 : (wr.drew.alloc (.cells #[.bool bv] 4)).cell? ⟨w.heap.size, 2, none⟩ = some (.slice (some ⟨b2, o2, none⟩) m c2) ∧ (wr.drew.alloc (.cells #[.bool bv] 4)).cell? ⟨b2, o2 + ti, none⟩ = some (.bool bv) := ⟨(World.cell?_alloc_lt wr.drew _ ⟨w.heap.size, 2, none⟩ (show w.heap.size < wr.heap.size by omega)).trans s0.1, (World.cell?_alloc_lt wr.drew _ ⟨b2, o2 + ti, none⟩ (show b2 < wr.heap.size by omega)).trans s0.2⟩
          have d2e : (wr.drew.alloc (.cells #[.bool bv] 4)).cell? ⟨gO, 2, none⟩ = some (.slice AT TV.length cT) := (World.cell?_alloc_lt wr.drew _ ⟨gO, 2, none⟩ (show gO < wr.heap.size by omega)).trans d2
          have d2e2 : (wr.alloc (.cells #[.bool bv] 4)).cell? ⟨gO, 2, none⟩ = some (.slice AT TV.length cT) := d2e
          refine wp_region_held_drew (S := fun W => W.cell? ⟨w.heap.size, 2, none⟩ = some (.slice (some ⟨b2, o2, none⟩) m c2) ∧ W.cell? ⟨b2, o2 + ti, none⟩ = some (.bool bv)) (by first | assumption | kernel_rfl | rfl) s0 (fun hH => ?_)
          refine wpAnyH_take (i := 0) (v := ?_) rfl (by kernel_rfl) (by kernel_rfl) (by kernel_rfl) (fun _ _ _ h => h) (Or.inl ⟨by rfl, ?_⟩) hH ?_
          rotate_left
          · intro W hSw; (try dsimp only at hSw); go_simp; try with_reducible rfl
          try simp only [Act.put, List.getElem_toArray, List.getElem_cons_zero, List.getElem_cons_succ, List.setIfInBounds_toArray, List.set_cons_zero, List.set_cons_succ]
          refine wpAnyH_take (i := 2) (v := ?_) rfl (by kernel_rfl) (by kernel_rfl) (by kernel_rfl) (fun _ _ _ h => h) (Or.inl ⟨by rfl, ?_⟩) hH ?_
          rotate_left
          · intro W hSw; (try dsimp only at hSw); go_simp; try with_reducible rfl
          try simp only [Act.put, List.getElem_toArray, List.getElem_cons_zero, List.getElem_cons_succ, List.setIfInBounds_toArray, List.set_cons_zero, List.set_cons_succ]
          refine wpAnyH_take (i := 3) (v := ?_) rfl (by kernel_rfl) (by kernel_rfl) (by kernel_rfl) (fun _ _ _ h => h) (Or.inl ⟨by rfl, ?_⟩) hH ?_
          rotate_left
          · intro W hSw; (try dsimp only at hSw); go_simp; try with_reducible rfl
          try simp only [Act.put, List.getElem_toArray, List.getElem_cons_zero, List.getElem_cons_succ, List.setIfInBounds_toArray, List.set_cons_zero, List.set_cons_succ]
          refine wpAnyH_take (i := 4) (v := ?_) rfl (by kernel_rfl) (by kernel_rfl) (by kernel_rfl) (fun _ _ _ h => h) (Or.inl ⟨by rfl, ?_⟩) hH ?_
          rotate_left
          · intro W hSw; (try dsimp only at hSw); go_simp; try with_reducible rfl
          try simp only [Act.put, List.getElem_toArray, List.getElem_cons_zero, List.getElem_cons_succ, List.setIfInBounds_toArray, List.set_cons_zero, List.set_cons_succ]
          refine wpAnyH_take (i := 5) (v := ?_) rfl (by kernel_rfl) (by kernel_rfl) (by kernel_rfl) (fun _ _ _ h => h) (Or.inl ⟨by rfl, ?_⟩) hH ?_
          rotate_left
          · intro W hSw; (try dsimp only at hSw); go_simp; try with_reducible rfl
          try simp only [Act.put, List.getElem_toArray, List.getElem_cons_zero, List.getElem_cons_succ, List.setIfInBounds_toArray, List.set_cons_zero, List.set_cons_succ]
          refine wpAnyH_take (i := 6) (v := ?_) rfl (by kernel_rfl) (by kernel_rfl) (by kernel_rfl) (fun _ _ _ h => h) (Or.inl ⟨by rfl, ?_⟩) hH ?_
          rotate_left
          · intro W hSw; (try dsimp only at hSw); go_simp; try with_reducible rfl
          try simp only [Act.put, List.getElem_toArray, List.getElem_cons_zero, List.getElem_cons_succ, List.setIfInBounds_toArray, List.set_cons_zero, List.set_cons_succ]
          refine wpAnyH_ready (rs := [1, 7]) (by kernel_rfl) (by simp) (AllReadyH.cons rfl (fun K hK => ?_) (AllReadyH.cons rfl (fun K hK => ?_) AllReadyH.nil))
          · go_simp
            change K _ wr.drew
            refine hK.out _ _ s0 (fun hH5 => ?_)
            clear hK K
            try simp only [Act.put, List.getElem_toArray, List.getElem_cons_zero, List.getElem_cons_succ, List.setIfInBounds_toArray, List.set_cons_zero, List.set_cons_succ]
            refine wpAnyH_ready (rs := [7]) (by kernel_rfl) (by simp) (AllReadyH.cons rfl (fun K hK => ?_) AllReadyH.nil)
            go_simp
            change K _ (wr.drew.alloc (.cells #[.bool bv] 4))
            refine hK.out _ _ s1 (fun hH5 => ?_)
            clear hK K
            try simp only [Act.put, List.getElem_toArray, List.getElem_cons_zero, List.getElem_cons_succ, List.setIfInBounds_toArray, List.set_cons_zero, List.set_cons_succ]
            refine wpAnyH_ready (rs := [8]) (by kernel_rfl) (by simp) (AllReadyH.cons rfl (fun K hK => ?_) AllReadyH.nil)
            rw [if_pos (by rfl)]
            refine wp_append1g (w := wr.drew) (.tmp 53) (.tmp 59) _ rfl 4 i2 _ Try.underlying23 hi2 hx0 hx1 (by omega) rfl D (.slice AT TV.length cT) _ (.bool bv) rfl rfl rfl HTK.out (by have := HTL.out; omega) (by show D ≤ wr.heap.size; omega) ?_
            intro v2 w6 hown2 hgr2 hloc2
            obtain ⟨Av2, nv2, cv2, ev2⟩ : ∃ A n c, v2 = .slice A n c := by obtain ⟨A', c', e, _⟩ := own_shape hown2; exact ⟨A', _, c', e⟩
            subst ev2
            have hTo : ∀ k, (Value.slice AT TV.length cT).ownBlock = some k → D ≤ k := fun k hk => own_lt HTK.out hk
            have s2 : w6.cell? ⟨w.heap.size, 2, none⟩ = some (.slice (some ⟨b2, o2, none⟩) m c2) ∧ w6.cell? ⟨b2, o2 + ti, none⟩ = some (.bool bv) := ⟨(World.cell?_of_block (a := ⟨w.heap.size, 2, none⟩) (hgr2.block (w.heap.size) (show w.heap.size < wr.heap.size by omega) (fun e => by have := hTo _ e.symm; omega))).trans s0.1, (World.cell?_of_block (a := ⟨b2, o2 + ti, none⟩) (hgr2.block b2 (show b2 < wr.heap.size by omega) (fun e => by have := hTo _ e.symm; omega))).trans s0.2⟩
            have hR6 := Lib.hid (hRd.addT (b := bv) hgr2 (by rw [List.map_append, HTV.out]; exact hown2))
            have hO6 : w6.heap[gO]? = some (.cells #[S M.sg, .slice A11 n11 c11, .slice AT TV.length cT] 25 (0, 0)) := (hgr2.block (gO) (show gO < wr.heap.size by omega) (fun e => by have := hTo _ e.symm; omega)).trans hRd.out
            obtain ⟨_, _, g2, _, _, g5⟩ := three_atL hO6
            try simp only [Act.put, List.getElem_toArray, List.getElem_cons_zero, List.getElem_cons_succ, List.setIfInBounds_toArray, List.set_cons_zero, List.set_cons_succ]
            refine hK.out _ _ s2 (fun hH7 => ?_)
            clear hK K
            try simp only [Act.put, List.getElem_toArray, List.getElem_cons_zero, List.getElem_cons_succ, List.setIfInBounds_toArray, List.set_cons_zero, List.set_cons_succ]
            refine wpAnyH_take (i := 9) (v := ?_) rfl (by kernel_rfl) (by kernel_rfl) (by kernel_rfl) (fun _ _ _ h => h) (Or.inl ⟨by rfl, ?_⟩) hH7 ?_
            rotate_left
            · intro W hSw; (try dsimp only at hSw); go_simp; try with_reducible rfl
            try simp only [Act.put, List.getElem_toArray, List.getElem_cons_zero, List.getElem_cons_succ, List.setIfInBounds_toArray, List.set_cons_zero, List.set_cons_succ]
            refine wpAnyH_ready (rs := [10]) (by kernel_rfl) (by simp) (AllReadyH.cons rfl (fun K hK => ?_) AllReadyH.nil)
            go_simp
            change K _ (w6.setCell ⟨gO, 2, none⟩ (.slice Av2 nv2 cv2))
            have s3 : (w6.setCell ⟨gO, 2, none⟩ (.slice Av2 nv2 cv2)).cell? ⟨w.heap.size, 2, none⟩ = some (.slice (some ⟨b2, o2, none⟩) m c2) ∧ (w6.setCell ⟨gO, 2, none⟩ (.slice Av2 nv2 cv2)).cell? ⟨b2, o2 + ti, none⟩ = some (.bool bv) := ⟨(World.cell?_setCell_far w6 ⟨gO, 2, none⟩ ⟨w.heap.size, 2, none⟩ _ (by show gO ≠ w.heap.size; omega)).trans s2.1, (World.cell?_setCell_far w6 ⟨gO, 2, none⟩ ⟨b2, o2 + ti, none⟩ _ (by show gO ≠ b2; omega)).trans s2.2⟩
            refine hK.out _ _ s3 (fun hH8 => ?_)
            clear hK K
            try simp only [Act.put, List.getElem_toArray, List.getElem_cons_zero, List.getElem_cons_succ, List.setIfInBounds_toArray, List.set_cons_zero, List.set_cons_succ]
            refine wpAnyH_done (by kernel_rfl) ?_ _
            generalize w6.setCell ⟨gO, 2, none⟩ (.slice Av2 nv2 cv2) = w7 at *
            clear s0 s1 s2 s3 d2e d2e2 hO6 g2 g5 hown2 hgr2 hloc2 hTo hRd hlt a2 ct d2 HR 
            have HR7 := Lib.hid (show OutR M.sg w3 gO D (R ++ [K]) (T ++ [bv]) (.slice A11 n11 c11) (.slice Av2 nv2 cv2) (fun _ => True) w7 from hR6.out)
            clear hR6
            go_wp2_with fail
            go_roundg f
            case measure => omega
            case rel => exact ⟨i + 1, _, _, by omega, by simp, by rw [HSN.out.1, HSN.out.2, HBV.out]; exact HR7⟩
          · go_simp
            change K _ (wr.drew.alloc (.cells #[.bool bv] 4))
            refine hK.out _ _ s1 (fun hH5 => ?_)
            clear hK K
            try simp only [Act.put, List.getElem_toArray, List.getElem_cons_zero, List.getElem_cons_succ, List.setIfInBounds_toArray, List.set_cons_zero, List.set_cons_succ]
            refine wpAnyH_ready (rs := [1]) (by kernel_rfl) (by simp) (AllReadyH.cons rfl (fun K hK => ?_) AllReadyH.nil)
            go_simp
            change K _ (wr.drew.alloc (.cells #[.bool bv] 4))
            refine hK.out _ _ s1 (fun hH6 => ?_)
            clear hK K
            try simp only [Act.put, List.getElem_toArray, List.getElem_cons_zero, List.getElem_cons_succ, List.setIfInBounds_toArray, List.set_cons_zero, List.set_cons_succ]
            refine wpAnyH_ready (rs := [8]) (by kernel_rfl) (by simp) (AllReadyH.cons rfl (fun K hK => ?_) AllReadyH.nil)
            rw [if_pos (by rfl)]
            refine wp_append1g (w := wr.drew) (.tmp 53) (.tmp 59) _ rfl 4 i2 _ Try.underlying23 hi2 hx0 hx1 (by omega) rfl D (.slice AT TV.length cT) _ (.bool bv) rfl rfl rfl HTK.out (by have := HTL.out; omega) (by show D ≤ wr.heap.size; omega) ?_
            intro v2 w6 hown2 hgr2 hloc2
            obtain ⟨Av2, nv2, cv2, ev2⟩ : ∃ A n c, v2 = .slice A n c := by obtain ⟨A', c', e, _⟩ := own_shape hown2; exact ⟨A', _, c', e⟩
            subst ev2
            have hTo : ∀ k, (Value.slice AT TV.length cT).ownBlock = some k → D ≤ k := fun k hk => own_lt HTK.out hk
            have s2 : w6.cell? ⟨w.heap.size, 2, none⟩ = some (.slice (some ⟨b2, o2, none⟩) m c2) ∧ w6.cell? ⟨b2, o2 + ti, none⟩ = some (.bool bv) := ⟨(World.cell?_of_block (a := ⟨w.heap.size, 2, none⟩) (hgr2.block (w.heap.size) (show w.heap.size < wr.heap.size by omega) (fun e => by have := hTo _ e.symm; omega))).trans s0.1, (World.cell?_of_block (a := ⟨b2, o2 + ti, none⟩) (hgr2.block b2 (show b2 < wr.heap.size by omega) (fun e => by have := hTo _ e.symm; omega))).trans s0.2⟩
            have hR6 := Lib.hid (hRd.addT (b := bv) hgr2 (by rw [List.map_append, HTV.out]; exact hown2))
            have hO6 : w6.heap[gO]? = some (.cells #[S M.sg, .slice A11 n11 c11, .slice AT TV.length cT] 25 (0, 0)) := (hgr2.block (gO) (show gO < wr.heap.size by omega) (fun e => by have := hTo _ e.symm; omega)).trans hRd.out
            obtain ⟨_, _, g2, _, _, g5⟩ := three_atL hO6
            try simp only [Act.put, List.getElem_toArray, List.getElem_cons_zero, List.getElem_cons_succ, List.setIfInBounds_toArray, List.set_cons_zero, List.set_cons_succ]
            refine hK.out _ _ s2 (fun hH7 => ?_)
            clear hK K
            try simp only [Act.put, List.getElem_toArray, List.getElem_cons_zero, List.getElem_cons_succ, List.setIfInBounds_toArray, List.set_cons_zero, List.set_cons_succ]
            refine wpAnyH_take (i := 9) (v := ?_) rfl (by kernel_rfl) (by kernel_rfl) (by kernel_rfl) (fun _ _ _ h => h) (Or.inl ⟨by rfl, ?_⟩) hH7 ?_
            rotate_left
            · intro W hSw; (try dsimp only at hSw); go_simp; try with_reducible rfl
            try simp only [Act.put, List.getElem_toArray, List.getElem_cons_zero, List.getElem_cons_succ, List.setIfInBounds_toArray, List.set_cons_zero, List.set_cons_succ]
            refine wpAnyH_ready (rs := [10]) (by kernel_rfl) (by simp) (AllReadyH.cons rfl (fun K hK => ?_) AllReadyH.nil)
            go_simp
            change K _ (w6.setCell ⟨gO, 2, none⟩ (.slice Av2 nv2 cv2))
            have s3 : (w6.setCell ⟨gO, 2, none⟩ (.slice Av2 nv2 cv2)).cell? ⟨w.heap.size, 2, none⟩ = some (.slice (some ⟨b2, o2, none⟩) m c2) ∧ (w6.setCell ⟨gO, 2, none⟩ (.slice Av2 nv2 cv2)).cell? ⟨b2, o2 + ti, none⟩ = some (.bool bv) := ⟨(World.cell?_setCell_far w6 ⟨gO, 2, none⟩ ⟨w.heap.size, 2, none⟩ _ (by show gO ≠ w.heap.size; omega)).trans s2.1, (World.cell?_setCell_far w6 ⟨gO, 2, none⟩ ⟨b2, o2 + ti, none⟩ _ (by show gO ≠ b2; omega)).trans s2.2⟩
            refine hK.out _ _ s3 (fun hH8 => ?_)
            clear hK K
            try simp only [Act.put, List.getElem_toArray, List.getElem_cons_zero, List.getElem_cons_succ, List.setIfInBounds_toArray, List.set_cons_zero, List.set_cons_succ]
            refine wpAnyH_done (by kernel_rfl) ?_ _
            generalize w6.setCell ⟨gO, 2, none⟩ (.slice Av2 nv2 cv2) = w7 at *
            clear s0 s1 s2 s3 d2e d2e2 hO6 g2 g5 hown2 hgr2 hloc2 hTo hRd hlt a2 ct d2 HR 
            have HR7 := Lib.hid (show OutR M.sg w3 gO D (R ++ [K]) (T ++ [bv]) (.slice A11 n11 c11) (.slice Av2 nv2 cv2) (fun _ => True) w7 from hR6.out)
            clear hR6
            go_wp2_with fail
            go_roundg f
            case measure => omega
            case rel => exact ⟨i + 1, _, _, by omega, by simp, by rw [HSN.out.1, HSN.out.2, HBV.out]; exact HR7⟩
    · obtain rfl : i = m := by omega
      have p1 : ¬ (i : Int) < (i : Int) := by omega
      have hfn : (M.frm k).nx.take i = (M.frm k).nx := List.take_of_length_le (by have h1 := Mc.frm_n M k; have h2 : (M.frm k).n = (M.frm k).nx.length := rfl; have := HN.out; omega)
      have hft : (M.frm k).tk.take i = (M.frm k).tk := List.take_of_length_le (by show (List.map _ (List.range M.n)).length ≤ i; simp; have := HN.out; omega)
      have hnl : (M.frm k).nx.length = M.n := Mc.frm_n M k
      have htl : (M.frm k).tk.length = M.n := by show (List.map _ (List.range M.n)).length = M.n; simp
      rw [hfn, hft] at hx
      have HHR : Hid (wr.heap[w.heap.size + 1]? = some (.cells #[S [], .slice none 0 0, .slice none 0 0] 25 (0, 0))) := Lib.hid ((hx.low.block (w.heap.size + 1) (by have := HGO.out; omega)).trans HR1.out)
      obtain ⟨r0, r1, r2, g0, g1, g2⟩ := three_atL HHR.out
      obtain ⟨AN, cN, hvN⟩ := hx.rows.shape
      subst hvN
      obtain ⟨AT, cT, hvT, _⟩ := own_shape hx.tks
      rw [List.length_map] at hvT
      subst hvT
      rw [hnl, htl] at hx
      obtain ⟨d0, d1, d2, _, _, _⟩ := three_atL hx.out
      have HX := Lib.hid hx
      have HL := Lib.hid (And.intro hnl htl)
      clear hx hfn hft hnl htl HR
      go_wp2_with fail
      refine bodyPost_ret (res_cell1 rfl _ _ (w.heap.size + 1) 25 _ (0, 0) _ rfl (set3L HHR.out) Try.underlying25 rfl (by kernel_rfl)) rfl ?_
      have hgo := HGO.out
      have HGR := ((grown_set wr (w.heap.size + 1) 0 (S M.sg)).trans (grown_set (wr.setCell ⟨w.heap.size + 1, 0, none⟩ (S M.sg)) (w.heap.size + 1) 1 (.slice AN M.n cN))).trans (grown_set ((wr.setCell ⟨w.heap.size + 1, 0, none⟩ (S M.sg)).setCell ⟨w.heap.size + 1, 1, none⟩ (.slice AN M.n cN)) (w.heap.size + 1) 2 (.slice AT M.n cT))
      have hKY := HX.out.rows.grown HGR (fun k hk hd => by injection hk with hk; omega) (fun k cur hk hd => by injection hk with hk; omega)
      have hTO := own_kept HX.out.tks HGR (fun k hk e => by injection e with e; have := own_lt HX.out.tks hk; omega)
      have hT := bls_of_own (T := (M.frm k).tk) hTO (by rw [HL.out.2])
      have hfin : Below w.heap.size w wr := HB3.out.trans (HX.out.low.mono (by omega))
      exact ⟨⟨AN, cN, AT, ⟨cT, rfl⟩, hKY.rows, hT⟩, ((hfin.setCell (p := ⟨w.heap.size + 1, 0, none⟩) (by show w.heap.size ≤ w.heap.size + 1; omega) _).setCell (p := ⟨w.heap.size + 1, 1, none⟩) (by show w.heap.size ≤ w.heap.size + 1; omega) _).setCell (p := ⟨w.heap.size + 1, 2, none⟩) (by show w.heap.size ≤ w.heap.size + 1; omega) _⟩
end Go.Proofs.Ytfglajddibjnjaa
