/- The document's told: which pairs of states something tells apart. No condition. -/
import Derived.Test.YtfglajddibjnjaaDoorLsTp
namespace Go.Proofs.YtfglajddibjnjaaDoor
open Go.RowKit IntWalk
set_option linter.unusedSimpArgs false
attribute [local go_sem] byte_at str_app
attribute [local go_sem ↓] Go.wp_at_zero Go.wp_at_succ

theorem info_brows : (Tryd.prog.info? 23).map (fun i => (i.zero, i.size, i.bytes)) = some (some (.slice none 0 0), 1, 24) := by kernel_rfl

/-- Where a round of looking stands. -/
def Ps (M : Mc) (U : Nat) (mo : Bool) (T : List (List Bool)) (i k c : Nat) : Prop := unset T ≤ U ∧ (mo = true → unset T + 1 ≤ U) ∧ (mo = false → Quiet M T i k c)
theorem Ps.set {M : Mc} {U : Nat} {mo : Bool} {T : List (List Bool)} {i k c : Nat} (h : Ps M U mo T i k c) (hd : Dim M.n T) (hi : i < M.n) (hk : k < M.n) (hb : bb T i k = false) : Ps M U true (setB T i k) i k (c + 1) := by
  have := unset_set hd hi hk hb
  have h1 := h.1
  exact ⟨by omega, fun _ => by omega, fun h => by cases h⟩
theorem Ps.stay {M : Mc} {U : Nat} {mo : Bool} {T : List (List Bool)} {i k c i' k' c' : Nat} (h : Ps M U mo T i k c) (hq : Quiet M T i k c → Quiet M T i' k' c') : Ps M U mo T i' k' c' := ⟨h.1, h.2.1, fun e => hq (h.2.2 e)⟩
theorem blkB_cell {w : World} {g k : Nat} {E : List Bool} (h : Blk w g 4 (E.map Value.bool)) (hk : k < E.length) : w.cell? ⟨g, k, none⟩ = some (.bool (bo E k)) := by
  rw [h.cell k, List.getElem?_map, List.getElem?_eq_getElem hk, bo_eq hk]; rfl

set_option maxRecDepth 100000 in
set_option maxHeartbeats 8000000 in
theorem told_any (M : Mc) (hMo : M.Ok) (A A2 : Option Addr) (n c m c2 B : Nat) (w : World) (hM : MacW w B A n A2 m M) (hB : B ≤ w.heap.size) :
    Calls Tryd.prog 18 #[mcv M.sg A n c A2 m c2] w fun e w' => (∃ w1 g cap G T, e = .returned (.slice (some ⟨g, 0, none⟩) M.n cap) ∧ TB w1 (w.heap.size + 1) M.n g G T w' ∧ Tl M T ∧ Quiet M T M.n 0 0) ∧ Below w.heap.size w w' := by
  obtain ⟨i1, hi1, hy0, hy1, hy2⟩ := info_parts info_brows
  obtain ⟨i2, hi2, hx0, hx1, hx2⟩ := info_parts info_boolL
  have hn := hM.n_eq
  have hm := hM.m_eq
  obtain rfl : m = n := by have := hMo.tak; omega
  have hm1000 : m ≤ 1000 := by have := hMo.small; omega
  have hm0 : 0 < m := by have := hMo.pos; omega
  have hmk := fun W => mk_ints (P := Tryd.prog) Tryd.underlying23 hi2 hx0 hx1 rfl (by omega) m (by omega) W
  have h0 := heap_alloc_new w (.cells #[S M.sg, .slice A m c, .slice A2 m c2] 25)
  obtain ⟨c0, c1, c2'⟩ := mac_cells w M.sg A m c A2 m c2 25
  have hb1 := (Below.refl w.heap.size w).alloc (Nat.le_refl _) (.cells #[S M.sg, .slice A m c, .slice A2 m c2] 25)
  generalize hw1 : w.alloc (.cells #[S M.sg, .slice A m c, .slice A2 m c2] 25) = w1 at *
  have HZ1 : Hid (w1.heap.size = w.heap.size + 1) := Lib.hid (by rw [← hw1]; simp)
  have HO := Lib.hid hMo; have HN := Lib.hid hn; have HB := Lib.hid hB; have HM := Lib.hid hM; have HC := Lib.hid h0; have HB1 := Lib.hid hb1
  clear hMo hn hm hB hM h0 hb1
  go_enter Tryd.func18, Tryd.ntmps18
  go_wp2_with fail
  clear hw1 c0 c1 c2'
  -- what every world above the box has
  have HCX : Hid (∀ W, Below w1.heap.size w1 W → (W.cell? ⟨w.heap.size, 0, none⟩ = some (S M.sg) ∧ W.cell? ⟨w.heap.size, 1, none⟩ = some (.slice A m c) ∧ W.cell? ⟨w.heap.size, 2, none⟩ = some (.slice A2 m c2)) ∧ Below w.heap.size w W) := Lib.hid fun W hb => by
    have hcr := (hb.block w.heap.size (by have := HZ1.out; omega)).trans HC.out
    obtain ⟨a, b, c, _⟩ := three_atL hcr
    exact ⟨⟨a, b, c⟩, HB1.out.trans (hb.mono HB1.out.size)⟩
  have HTK : Hid (∀ W, Below w1.heap.size w1 W → ∃ b o, A2 = some ⟨b, o, none⟩ ∧ ∀ j, j < m → W.cell? ⟨b, o + j, none⟩ = some (.bool (bo M.tk j))) := Lib.hid fun W hb => by
    obtain ⟨b, o, e, h1, h2⟩ := ((HM.out.below ((HCX.out W hb).2.mono HB.out)).tks).2 hm0
    exact ⟨b, o, e, h2⟩
  obtain ⟨b2, o2, hA2, _⟩ := HTK.out w1 (Below.refl _ _)
  subst hA2
  have HTC : Hid (∀ W, Below w1.heap.size w1 W → ∀ j, j < m → W.cell? ⟨b2, o2 + j, none⟩ = some (.bool (bo M.tk j))) := Lib.hid fun W hb => by
    obtain ⟨b, o, e, h2⟩ := HTK.out W hb
    injection e with e; injection e with e1 e2 _
    subst e1 e2; exact h2
  clear HTK
  obtain ⟨b3, o3, hA3, hb3, hr0⟩ := HM.out.rows.2 hm0
  subst hA3
  have HRX : Hid (∀ W, Below w1.heap.size w1 W → ∀ j, j < m → ∃ (b : Option Addr) (o1 o2 cc : Nat), W.cell? ⟨b3, o3 + j, none⟩ = some (.slice (if M.s = 0 then b else some ⟨o1, o2, none⟩) M.s cc) ∧ ∀ d, d < M.s → W.cell? ⟨o1, o2 + d, none⟩ = some (.int .i64 (M.st j d : Int))) := Lib.hid fun W hb j hj => by
    have hbw := (HCX.out W hb).2
    obtain ⟨a, mm, cc, h1, h2⟩ := hr0 j hj
    obtain rfl : mm = M.s := h2.1.symm.trans (HO.out.row j (by rw [HN.out]; exact hj))
    have h1' := (hbw.cell (p := ⟨b3, o3 + j, none⟩) (Nat.lt_of_lt_of_le hb3 HB.out)).trans h1
    have h2' := h2.keep (w' := W) fun p hp => hbw.cell (Nat.lt_of_lt_of_le hp HB.out)
    by_cases h0 : M.s = 0
    · exact ⟨a, 0, 0, cc, by rw [if_pos h0]; exact h1', fun d hd => absurd hd (by omega)⟩
    · obtain ⟨b, o, rfl, _, h3⟩ := h2'.2 (by omega)
      refine ⟨none, b, o, cc, by rw [if_neg h0]; exact h1', fun d hd => ?_⟩
      rw [← HO.out.st_eq (by rw [HN.out]; exact hj) hd]
      exact h3 d hd
  clear hr0 hb3
  generalize hD : w1.heap.size = D at *
  have HD := Lib.hid hD
  clear hD
  go_loopg [4, 5] m (fun f v iv wr => ∃ (i : Nat) (G : Nat → Nat), i + f = m ∧ iv = .int .i64 (i : Int) ∧ Hid (TP w1 D m i v G (tab0 M) wr))
  case atStart => exact ⟨0, _, by omega, rfl, Lib.hid (TP.start w1 D m (tab0 M))⟩
  case round =>
    obtain ⟨i, G, hif, rfl, HR⟩ := hrel
    by_cases hli : i < m
    · obtain ⟨f, rfl⟩ : ∃ f, gk = f + 1 := ⟨gk - 1, by omega⟩
      have p1 : (i : Int) < (m : Int) := by omega
      have p2 : IntKind.i64.wrap ((i : Int) + 1) = (i : Int) + 1 := i64_in _ (by omega)
      have hsz : D ≤ wr.heap.size := by have := HR.out.low.size; rw [← HD.out]; exact this
      have HSZ := Lib.hid hsz
      have hal : (List.replicate m (Value.bool false)).toArray = ((List.replicate m false).map Value.bool).toArray := by rw [List.map_replicate]
      have HNEW := Lib.hid (Blk.new wr 4 ((List.replicate m false).map Value.bool))
      rw [List.map_replicate] at HNEW
      have HR2 : Hid (TP w1 D m i u4 G (tab0 M) (wr.alloc (.cells (List.replicate m (Value.bool false)).toArray 4))) := Lib.hid (HR.out.other (World.grownBy_alloc wr _ none) hsz fun k hk => by cases hk)
      have HNR : Hid ((∀ j, j < i → G j ≠ wr.heap.size) ∧ (∀ k, u4.ownBlock = some k → k ≠ wr.heap.size)) := Lib.hid ⟨fun j hj e => by have := (HR.out.row j hj).lt; omega, fun k hk e => by have := (HR.out.own.lt k hk).2; omega⟩
      have HZR : Hid (wr.heap.size < (wr.alloc (.cells (List.replicate m (Value.bool false)).toArray 4)).heap.size) := Lib.hid (by simp)
      clear hal
      go_wp2_with fail
      simp only [List.toArray_replicate] at HNEW HR2 HZR
      have HEB : Hid (Blk (wr.alloc (.cells (Array.replicate m (Value.bool false)) 4)) wr.heap.size 4 ((List.replicate m false).map Value.bool)) := Lib.hid (by
        have := HNEW.out
        rw [List.map_replicate]; exact this)
      clear HNEW HR
      generalize wr.alloc (.cells (Array.replicate m (Value.bool false)) 4) = wa at *
      generalize hgR : wr.heap.size = gR at *
      have HGR := Lib.hid hsz
      clear hgR hsz
      go_loopg [7] m (fun f2 iv wx => ∃ (k : Nat) (E : List Bool), k + f2 = m ∧ iv = .int .i64 (k : Int) ∧ Hid (TP w1 D m i u4 G (tab0 M) wx) ∧ Hid (Blk wx gR 4 (E.map Value.bool)) ∧ Hid (E.length = m ∧ ∀ e, e < k → bo E e = (!(bo M.tk i == bo M.tk e))))
      case atStart => exact ⟨0, _, by omega, rfl, HR2, HEB, Lib.hid ⟨by simp, fun e he => absurd he (by omega)⟩⟩
      case round =>
        clear HR2 HEB HZR
        obtain ⟨k, E, hkf, rfl, HX, HBE, HE⟩ := hrel
        obtain ⟨⟨a0, a1, a2⟩, hbw⟩ := HCX.out wr HX.out.low
        by_cases hlk : k < m
        · obtain ⟨f2, rfl⟩ : ∃ f, gk = f + 1 := ⟨gk - 1, by omega⟩
          have q1 : (k : Int) < (m : Int) := by omega
          have q2 : IntKind.i64.wrap ((k : Int) + 1) = (k : Int) + 1 := i64_in _ (by omega)
          have ti := HTC.out wr HX.out.low i hli
          have tk := HTC.out wr HX.out.low k hlk
          have HVAL : Hid ((E.set k (!(bo M.tk i == bo M.tk k))).length = m ∧ ∀ e, e < k + 1 → bo (E.set k (!(bo M.tk i == bo M.tk k))) e = (!(bo M.tk i == bo M.tk e))) := Lib.hid ⟨by rw [List.length_set]; exact HE.out.1, fun e he => by
            by_cases hek : e = k
            · subst hek; unfold bo; rw [List.getElem?_set_self (by rw [HE.out.1]; exact hlk)]; rfl
            · have : bo (E.set k (!(bo M.tk i == bo M.tk k))) e = bo E e := by unfold bo; rw [List.getElem?_set_ne (fun x => hek x.symm)]
              rw [this]; exact HE.out.2 e (by omega)⟩
          have e1 := blkB_cell HBE.out (k := k) (by rw [HE.out.1]; exact hlk)
          have e2 : wr.frozen? ⟨gR, k, none⟩ = false := HBE.out.frozen _
          have HXS := Lib.hid (fun v : Value => HX.out.other (grown_set wr gR k v) (by have := HX.out.low.size; rw [← HD.out]; exact this) fun k' hk => by injection hk with hk; subst hk; exact ⟨HGR.out, fun e => HNR.out.2 _ e rfl, HNR.out.1⟩)
          have HBS := Lib.hid (fun v : Value => HBE.out.set_ k v)
          generalize hx : bo M.tk i = x at *
          generalize hy : bo M.tk k = y at *
          generalize hz : (!(x == y)) = z at *
          clear hx hy
          go_wp2_with fail
          go_still_tail 14, (by kernel_rfl)
          change wpList _ _ _ _ _ wr.drew
          have e1' : wr.drew.cell? ⟨gR, k, none⟩ = some (.bool (bo E k)) := e1
          have e2' : wr.drew.frozen? ⟨gR, k, none⟩ = false := e2
          have HXD : Hid (∀ v, TP w1 D m i u4 G (tab0 M) (wr.drew.setCell ⟨gR, k, none⟩ v)) := Lib.hid fun v => (HXS.out v).drewN 1
          have HBD : Hid (∀ v, Blk (wr.drew.setCell ⟨gR, k, none⟩ v) gR 4 ((E.map Value.bool).set k v)) := Lib.hid fun v => (HBE.out.drew).set_ k v
          clear e1 e2 HX HBE HXS HBS a0 a1 a2 ti tk
          generalize wr.drew = wt at *
          go_wp2_with fail
          have HXF := Lib.hid (HXD.out (.bool z))
          have HBF : Hid (Blk (wt.setCell ⟨gR, k, none⟩ (.bool z)) gR 4 ((E.set k z).map Value.bool)) := Lib.hid (by rw [List.map_set]; exact HBD.out (.bool z))
          clear HXD HBD
          go_roundg f2
          case measure => omega
          case rel => exact ⟨k + 1, _, by omega, by simp, HXF, HBF, HVAL⟩
        · obtain rfl : m = k := by omega
          have q1 : ¬ (m : Int) < (m : Int) := by omega
          have hE : E = br (tab0 M) i := by
            unfold tab0
            rw [br_range (by have := HN.out; omega)]
            refine ext_bo (by unfold rowT; simp; have := HE.out.1; have := HN.out; omega) fun e he => ?_
            have he' : e < m := by rw [← HE.out.1]; exact he
            unfold rowT
            rw [bo_range (by have := HN.out; omega)]
            exact HE.out.2 e he'
          rw [hE] at HBE
          have HSZ9 : Hid (D ≤ wr.heap.size) := Lib.hid (by have := HX.out.low.size; rw [← HD.out]; exact this)
          have HOW := Lib.hid HX.out.own
          clear hE HE
          go_wp2_with (at_builtin; refine wpList_append1g rfl (.tmp 41) (.tmp 43) _ rfl 23 i1 _ Tryd.underlying46 hi1 hy0 hy1 (by omega) rfl D u4 _ (.slice (some ⟨gR, 0, none⟩) m m) rfl rfl rfl HOW.out (by simp; omega) HSZ9.out ?_; intro v11 w11 hown11 hgr11 hloc11)
          have HNX := Lib.hid (HX.out.snoc HBE.out HNR.out.1 HGR.out HSZ9.out hgr11 hown11)
          clear hown11 hgr11 hloc11 HX HBE HOW a0 a1 a2
          go_roundg f
          case measure => omega
          case rel => exact ⟨i + 1, _, by omega, by simp, HNX⟩
    · obtain rfl : m = i := by omega
      have p1 : ¬ (m : Int) < (m : Int) := by omega
      have hfin := HR.out.fin hm0 (by have h := (tl0 M).dim; rw [HN.out] at h; exact h)
      obtain ⟨g, cap, hv, hTB⟩ := hfin
      subst hv
      have HT0 := Lib.hid hTB
      have HTL0 := Lib.hid (tl0 M)
      generalize tab0 M = T0 at *
      clear hTB HR
      go_wp2_with fail
      go_loopg [8] (unset T0 + 1) (fun f mv wr => ∃ (mo : Bool) (T : List (List Bool)), mv = .bool mo ∧ Hid (TB w1 D m g G T wr) ∧ Hid (Tl M T) ∧ Hid ((mo = true → unset T + 1 ≤ f) ∧ (mo = false → Quiet M T m 0 0)))
      case atStart => exact ⟨true, T0, rfl, HT0, HTL0, Lib.hid ⟨fun _ => Nat.le_refl _, fun h => by cases h⟩⟩
      case round =>
        clear HT0 HTL0
        obtain ⟨mo, T, rfl, HT, HTL, HQ⟩ := hrel
        cases mo with
        | false =>
          have HLOW := Lib.hid (HCX.out wr HT.out.low).2
          have HTF := Lib.hid HT.out
          have HQ2 := Lib.hid (HQ.out.2 rfl)
          clear HT HQ
          go_wp2_with fail
          go_ret
          exact ⟨⟨w1, g, cap, G, T, by rw [HN.out]; rfl, by rw [HN.out, ← HZ1.out]; exact HTF.out, HTL.out, by rw [HN.out]; exact HQ2.out⟩, HLOW.out⟩
        | true =>
          have hgk := HQ.out.1 rfl
          obtain ⟨f, rfl⟩ : ∃ f, gk = f + 1 := ⟨gk - 1, by omega⟩
          have HU : Hid (unset T ≤ f) := Lib.hid (by omega)
          have HP0 : Hid (Ps M (unset T) false T 0 0 0) := Lib.hid ⟨Nat.le_refl _, (fun h => by cases h), fun _ => Quiet.zero M T⟩
          clear hgk HQ
          generalize unset T = U at *
          go_wp2_with fail
          go_loopg [8, 9] m (fun f2 mv iv wx => ∃ (i : Nat) (mo : Bool) (T : List (List Bool)), i + f2 = m ∧ mv = .bool mo ∧ iv = .int .i64 (i : Int) ∧ Hid (TB w1 D m g G T wx) ∧ Hid (Tl M T) ∧ Hid (Ps M U mo T i 0 0))
          case atStart => exact ⟨0, false, T, by omega, rfl, rfl, HT, HTL, HP0⟩
          case round =>
            clear HT HTL HP0
            obtain ⟨i, mo, T, hif, rfl, rfl, HT, HTL, HP⟩ := hrel
            by_cases hli : i < m
            · obtain ⟨f2, rfl⟩ : ∃ f, gk = f + 1 := ⟨gk - 1, by omega⟩
              have p1 : (i : Int) < (m : Int) := by omega
              have p2 : IntKind.i64.wrap ((i : Int) + 1) = (i : Int) + 1 := i64_in _ (by omega)
              go_wp2_with fail
              go_loopg [8, 10] m (fun f3 mv kv wx => ∃ (k : Nat) (mo : Bool) (T : List (List Bool)), k + f3 = m ∧ mv = .bool mo ∧ kv = .int .i64 (k : Int) ∧ Hid (TB w1 D m g G T wx) ∧ Hid (Tl M T) ∧ Hid (Ps M U mo T i k 0))
              case atStart => exact ⟨0, mo, T, by omega, rfl, rfl, HT, HTL, HP⟩
              case round =>
                clear HT HTL HP
                obtain ⟨k, mo, T, hkf, rfl, rfl, HT, HTL, HP⟩ := hrel
                by_cases hlk : k < m
                · obtain ⟨f3, rfl⟩ : ∃ f, gk = f + 1 := ⟨gk - 1, by omega⟩
                  have q1 : (k : Int) < (m : Int) := by omega
                  have q2 : IntKind.i64.wrap ((k : Int) + 1) = (k : Int) + 1 := i64_in _ (by omega)
                  go_wp2_with fail
                  go_loopg [8, 11] M.s (fun f4 mv cv wx => ∃ (d : Nat) (mo : Bool) (T : List (List Bool)), d + f4 = M.s ∧ mv = .bool mo ∧ cv = .int .i64 (d : Int) ∧ Hid (TB w1 D m g G T wx) ∧ Hid (Tl M T) ∧ Hid (Ps M U mo T i k d))
                  case atStart => exact ⟨0, mo, T, by omega, rfl, rfl, HT, HTL, HP⟩
                  case round =>
                    clear HT HTL HP
                    obtain ⟨d, mo, T, hdf, rfl, rfl, HT, HTL, HP⟩ := hrel
                    obtain ⟨⟨a0, a1, a2⟩, hbw⟩ := HCX.out wr HT.out.low
                    by_cases hld : d < M.s
                    · obtain ⟨f4, rfl⟩ : ∃ f, gk = f + 1 := ⟨gk - 1, by omega⟩
                      have r1 : (d : Int) < (M.s : Int) := by omega
                      have r2 : IntKind.i64.wrap ((d : Int) + 1) = (d : Int) + 1 := i64_in _ (by have := HO.out.few; omega)
                      have t0 := HT.out.cell_top hli
                      have t1 := HT.out.cell_at hli hlk
                      by_cases hx : bb T i k = true
                      · rw [hx] at t1
                        have HP2 := Lib.hid (HP.out.stay (fun h => Quiet.c h fun e => by rw [hx] at e; cases e))
                        clear HP hx hbw
                        go_wp2_with fail
                        go_quiet (fail)
                        go_wp2_with fail
                        have HT2 := Lib.hid (HT.out.drewN nq)
                        clear HT
                        go_roundg f4
                        case measure => omega
                        case rel => exact ⟨d + 1, mo, T, by omega, rfl, by simp, HT2, HTL, HP2⟩
                      · have hx' : bb T i k = false := by simpa using hx
                        rw [hx'] at t1
                        have hne : ¬ M.s = 0 := by omega
                        obtain ⟨_, b4, o4, cc4, u1, u2⟩ := HRX.out wr HT.out.low i hli
                        obtain ⟨_, b5, o5, cc5, u3, u4⟩ := HRX.out wr HT.out.low k hlk
                        rw [if_neg hne] at u1 u3
                        have u5 := u2 d hld
                        have u6 := u4 d hld
                        have hsi : M.st i d < m := by rw [← HN.out]; exact HO.out.st_lt (by rw [HN.out]; exact hli) hld
                        have hsk : M.st k d < m := by rw [← HN.out]; exact HO.out.st_lt (by rw [HN.out]; exact hlk) hld
                        have t2 := HT.out.cell_top hsi
                        have t3 := HT.out.cell_at hsi hsk
                        have q3 : (M.st i d : Int) < (m : Int) := by omega
                        have q4 : (M.st k d : Int) < (m : Int) := by omega
                        by_cases hy : bb T (M.st i d) (M.st k d) = true
                        · rw [hy] at t3
                          have HP2 := Lib.hid (HP.out.set (by rw [HN.out]; exact HT.out.dim) (by rw [HN.out]; exact hli) (by rw [HN.out]; exact hlk) hx')
                          have HTL2 := Lib.hid (HTL.out.set HO.out (i := i) (k := k) (c := d) (by rw [HN.out]; exact hli) (by rw [HN.out]; exact hlk) hld hy)
                          have t4 : wr.frozen? ⟨G i, k, none⟩ = false := (HT.out.row i hli).frozen _
                          have HLI := Lib.hid hli; have HLK := Lib.hid hlk
                          generalize M.st i d = si at *
                          generalize M.st k d = sk at *
                          clear HP HTL hx hx' hbw u2 u4 hy hne
                          go_wp2_with fail
                          go_quiet (fail)
                          go_wp2_with fail
                          have HT2 := Lib.hid ((HT.out.drewN nq).set HLI.out HLK.out)
                          clear HT
                          go_roundg f4
                          case measure => omega
                          case rel => exact ⟨d + 1, true, _, by omega, rfl, by simp, HT2, HTL2, HP2⟩
                        · have hy' : bb T (M.st i d) (M.st k d) = false := by simpa using hy
                          rw [hy'] at t3
                          have HP2 := Lib.hid (HP.out.stay (fun h => Quiet.c h fun _ => hy'))
                          generalize M.st i d = si at *
                          generalize M.st k d = sk at *
                          clear HP hx hx' hbw u2 u4 hy hy' hne
                          go_wp2_with fail
                          go_quiet (fail)
                          go_wp2_with fail
                          have HT2 := Lib.hid (HT.out.drewN nq)
                          clear HT
                          go_roundg f4
                          case measure => omega
                          case rel => exact ⟨d + 1, mo, T, by omega, rfl, by simp, HT2, HTL, HP2⟩
                    · obtain rfl : M.s = d := by omega
                      have r1 : ¬ (M.s : Int) < (M.s : Int) := by omega
                      have HP2 := Lib.hid (HP.out.stay (fun h => h.k))
                      clear HP a2
                      go_wp2_with fail
                      go_roundg f3
                      case measure => omega
                      case rel => exact ⟨k + 1, mo, T, by omega, rfl, by simp, HT, HTL, HP2⟩
                · obtain rfl : m = k := by omega
                  have q1 : ¬ (m : Int) < (m : Int) := by omega
                  have HP2 := Lib.hid (HP.out.stay (fun h => Quiet.i (by rw [HN.out]; exact h)))
                  clear HP
                  go_wp2_with fail
                  go_roundg f2
                  case measure => omega
                  case rel => exact ⟨i + 1, mo, T, by omega, rfl, by simp, HT, HTL, HP2⟩
            · obtain rfl : m = i := by omega
              have p1 : ¬ (m : Int) < (m : Int) := by omega
              go_wp2_with fail
              go_roundg f
              case measure => omega
              case rel => exact ⟨mo, T, rfl, HT, HTL, Lib.hid ⟨fun e => Nat.le_trans (HP.out.2.1 e) HU.out, fun e => HP.out.2.2 e⟩⟩
end Go.Proofs.YtfglajddibjnjaaDoor
