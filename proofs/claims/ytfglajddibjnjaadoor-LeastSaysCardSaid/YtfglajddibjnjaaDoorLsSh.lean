/- The document's Shortest: the shortest text that a machine takes, level by level. No condition. -/
import Derived.Test.YtfglajddibjnjaaDoorLsR
import Derived.Test.YtfglajddibjnjaaDoorLsSl
namespace Go.Proofs.YtfglajddibjnjaaDoor
open Go.RowKit IntWalk
set_option linter.unusedSimpArgs false
attribute [local go_sem] byte_at str_app
attribute [local go_sem ↓] Go.wp_at_zero Go.wp_at_succ

set_option maxHeartbeats 1000000 in
theorem has3_any (A : Option Addr) (n c B : Nat) (L : List Int) (x : Int) (w : World) (hL : Ints w B A n L) (hn : n ≤ 100000) :
    Calls Tryd.prog 19 #[.slice A n c, .int .i64 x] w fun e w' => e = .returned (.bool (decide (x ∈ L))) ∧ w = w' := by
  have HL := Lib.hid hL
  have hlen := hL.1
  clear hL
  go_enter Tryd.func19, Tryd.ntmps19
  go_wp2_with fail
  go_loopg [5] n (fun f iv wr => ∃ k : Nat, k + f = n ∧ iv = .int .i64 (k : Int) ∧ w = wr ∧ Hid (∀ j, j < k → gi L j ≠ x))
  case atStart => exact ⟨0, by omega, rfl, rfl, Lib.hid fun j hj => absurd hj (by omega)⟩
  case round =>
    obtain ⟨k, hkf, rfl, rfl, HN⟩ := hrel
    by_cases hlt : k < n
    · obtain ⟨f, rfl⟩ : ∃ f, gk = f + 1 := ⟨gk - 1, by omega⟩
      have HM : Hid (gi L k ∈ L) := Lib.hid (gi_mem (by omega))
      obtain ⟨b, off, rfl, _, hc⟩ := HL.out.at_ hlt
      have p1 : IntKind.i64.wrap ((k : Int) + 1) = (k : Int) + 1 := i64_in _ (by omega)
      have p2 : (k : Int) < (n : Int) := by omega
      by_cases he : gi L k = x
      · rw [he] at HM hc
        have q1 : (x == x) = true := by simp
        clear he
        go_wp2_with fail
        go_ret
        exact ⟨ret_bool (by simp [HM.out]), rfl⟩
      · have q1 : (gi L k == x) = false := by simpa using he
        have HN2 : Hid (∀ j, j < k + 1 → gi L j ≠ x) := Lib.hid fun j hj => by
          rcases Nat.lt_or_ge j k with hl | hl
          · exact HN.out j hl
          · obtain rfl : j = k := by omega
            exact he
        clear he HM
        generalize gi L k = v at hc q1
        go_wp2_with fail
        go_roundg f
        case measure => omega
        case rel => exact ⟨k + 1, by omega, by simp, rfl, HN2⟩
    · have p2 : ¬ (k : Int) < (n : Int) := by omega
      have HX : Hid (x ∉ L) := Lib.hid fun hm => by
        obtain ⟨j, hj, e⟩ := List.getElem_of_mem hm
        exact HN.out j (by omega) (by rw [gi_eq hj]; exact e)
      go_wp2_with fail
      go_ret
      exact ⟨ret_bool (by simp [HX.out]), rfl⟩

/-- The k-th state and text of a level. -/
def lvN (L : List (Nat × List UInt8)) (k : Nat) : Nat := (L[k]?.getD (0, [])).1
def lvT (L : List (Nat × List UInt8)) (k : Nat) : List UInt8 := (L[k]?.getD (0, [])).2
theorem lv_get {L : List (Nat × List UInt8)} {k : Nat} (h : k < L.length) : L[k] = (lvN L k, lvT L k) := by unfold lvN lvT; rw [List.getElem?_eq_getElem h]; rfl
theorem lv_drop {L : List (Nat × List UInt8)} {k : Nat} (h : k < L.length) : L.drop k = (lvN L k, lvT L k) :: L.drop (k + 1) := by rw [List.drop_eq_getElem_cons h, lv_get h]

set_option maxRecDepth 100000 in
set_option maxHeartbeats 8000000 in
theorem shortest_any (M : Mc) (hMo : M.Ok) (A A2 : Option Addr) (n c m c2 B : Nat) (w : World) (hM : MacW w B A n A2 m M) (hB : B ≤ w.heap.size) :
    Calls Tryd.prog 7 #[mcv M.sg A n c A2 m c2] w fun e w' => (∃ r, Run M [(0, [])] [0] r ∧ e = .returned (.tuple #[S (r.getD []), .bool r.isSome])) ∧ Below w.heap.size w w' := by
  obtain ⟨i0, hi0, hz0, hz1, hz2⟩ := info_parts info_intL
  obtain ⟨i1, hi1, hy0, hy1, hy2⟩ := info_parts info_strL
  have hn := hM.n_eq
  have hm := hM.m_eq
  obtain rfl : m = n := by have := hMo.tak; omega
  have hm1000 : m ≤ 1000 := by have := hMo.small; omega
  have hm0 : 0 < m := by have := hMo.pos; omega
  have h0 := heap_alloc_new w (.cells #[S M.sg, .slice A m c, .slice A2 m c2] 25)
  have hb1 := (Below.refl w.heap.size w).alloc (Nat.le_refl _) (.cells #[S M.sg, .slice A m c, .slice A2 m c2] 25)
  generalize hw1 : w.alloc (.cells #[S M.sg, .slice A m c, .slice A2 m c2] 25) = w1 at *
  have HZ1 : Hid (w1.heap.size = w.heap.size + 1) := Lib.hid (by rw [← hw1]; simp)
  have HO := Lib.hid hMo; have HN := Lib.hid hn; have HB := Lib.hid hB; have HM := Lib.hid hM; have HC := Lib.hid h0; have HB1 := Lib.hid hb1
  have HCX : Hid (∀ W, Below w1.heap.size w1 W → (W.cell? ⟨w.heap.size, 0, none⟩ = some (S M.sg) ∧ W.cell? ⟨w.heap.size, 1, none⟩ = some (.slice A m c) ∧ W.cell? ⟨w.heap.size, 2, none⟩ = some (.slice A2 m c2)) ∧ Below w.heap.size w W) := Lib.hid fun W hb => by
    have hcr := (hb.block w.heap.size (by have := HZ1.out; omega)).trans HC.out
    obtain ⟨a, b, c, _⟩ := three_atL hcr
    exact ⟨⟨a, b, c⟩, HB1.out.trans (hb.mono HB1.out.size)⟩
  obtain ⟨b2, o2, hA2, hb2, ht0⟩ := HM.out.tks.2 hm0
  subst hA2
  obtain ⟨b3, o3, hA3, hb3', hr0⟩ := HM.out.rows.2 hm0
  subst hA3
  have HTC : Hid (∀ W, Below w1.heap.size w1 W → ∀ j, j < m → W.cell? ⟨b2, o2 + j, none⟩ = some (.bool (bo M.tk j))) := Lib.hid fun W hb j hj => ((HCX.out W hb).2.cell (p := ⟨b2, o2 + j, none⟩) (Nat.lt_of_lt_of_le hb2 HB.out)).trans (ht0 j hj)
  have HRX : Hid (∀ W, Below w1.heap.size w1 W → ∀ j, j < m → ∃ (b : Option Addr) (o1 o2 cc : Nat), W.cell? ⟨b3, o3 + j, none⟩ = some (.slice (if M.s = 0 then b else some ⟨o1, o2, none⟩) M.s cc) ∧ ∀ d, d < M.s → W.cell? ⟨o1, o2 + d, none⟩ = some (.int .i64 (M.st j d : Int))) := Lib.hid fun W hb j hj => by
    have hbw := (HCX.out W hb).2
    obtain ⟨a, mm, cc, h1, h2⟩ := hr0 j hj
    obtain rfl : mm = M.s := h2.1.symm.trans (HO.out.row j (by rw [HN.out]; exact hj))
    have h1' := (hbw.cell (p := ⟨b3, o3 + j, none⟩) (Nat.lt_of_lt_of_le hb3' HB.out)).trans h1
    have h2' := h2.keep (w' := W) fun p hp => hbw.cell (Nat.lt_of_lt_of_le hp HB.out)
    by_cases h0 : M.s = 0
    · exact ⟨a, 0, 0, cc, by rw [if_pos h0]; exact h1', fun d hd => absurd hd (by omega)⟩
    · obtain ⟨b, o, rfl, _, h3⟩ := h2'.2 (by omega)
      refine ⟨none, b, o, cc, by rw [if_neg h0]; exact h1', fun d hd => ?_⟩
      rw [← HO.out.st_eq (by rw [HN.out]; exact hj) hd]
      exact h3 d hd
  clear hMo hn hm hB hM h0 hb1 hb2 hb3' ht0 hr0
  go_enter Tryd.func7, Tryd.ntmps7
  go_wp2_with fail
  clear hw1
  have HST : Hid (ShR w1 w1.heap.size (.slice (some ⟨w1.heap.size, 0, none⟩) 1 1) (.slice (some ⟨w1.heap.size + 1, 0, none⟩) 1 1) (.slice (some ⟨w1.heap.size + 1 + 1, 0, none⟩) 1 1) (.slice none 0 0) (.slice none 0 0) [(0, [])] [] [0] (((w1.alloc (.cells #[.int .i64 0] 3)).alloc (.cells #[S []] 9)).alloc (.cells #[.int .i64 0] 3))) := Lib.hid (by
    have k1 := ((World.ownsRow_lit (base := w1.heap.size) (e := 3) (size := 1) w1 #[.int .i64 0] 1 (Nat.le_refl _) (by decide) (by simp)).alloc (.cells #[S []] 9)).alloc (.cells #[.int .i64 0] 3)
    have k2 := (World.ownsRow_lit (base := w1.heap.size) (e := 9) (size := 1) (w1.alloc (.cells #[.int .i64 0] 3)) #[S []] 1 (by simp) (by decide) (by simp)).alloc (.cells #[.int .i64 0] 3)
    have k3 := World.ownsRow_lit (base := w1.heap.size) (e := 3) (size := 1) ((w1.alloc (.cells #[.int .i64 0] 3)).alloc (.cells #[S []] 9)) #[.int .i64 0] 1 (by simp; omega) (by decide) (by simp)
    rw [World.size_alloc] at k2
    rw [World.size_alloc, World.size_alloc] at k3
    refine ⟨k1, k2, k3, World.ownsRow_nil _ _ _ _, World.ownsRow_nil _ _ _ _, fun k hk => ?_, fun k _ => by simp [Value.ownBlock], fun k _ => by simp [Value.ownBlock], fun k _ => by simp [Value.ownBlock], (((Below.refl _ w1).alloc (Nat.le_refl _) _).alloc (by simp) _).alloc (by simp; omega) _⟩
    injection hk with hk
    intro e; injection e with e
    have hk' : w1.heap.size = k := hk
    have e' : w1.heap.size + 1 + 1 = k := e
    omega)
  have HVS := Lib.hid (Vs.start HO.out)
  generalize ((w1.alloc (.cells #[.int .i64 0] 3)).alloc (.cells #[S []] 9)).alloc (.cells #[.int .i64 0] 3) = w4 at *
  generalize hD : w1.heap.size = D at *
  have HD := Lib.hid hD
  clear hD
  have HR0 : Hid (∀ r, Run M [(0, [])] [0] r → Run M [(0, [])] [0] r) := Lib.hid fun r h => h
  go_loopg [4, 5, 6] (m + 1) (fun f nv tv mv wr => ∃ (L : List (Nat × List UInt8)) (Sn : List Nat) (a : Nat), m + 1 ≤ a + f ∧ Hid (ShR w1 D nv tv mv (.slice none 0 0) (.slice none 0 0) L [] Sn wr) ∧ Hid (Vs M a L Sn) ∧ Hid (∀ r, Run M L Sn r → Run M [(0, [])] [0] r))
  case atStart => exact ⟨[(0, [])], [0], 0, by omega, HST, HVS, HR0⟩
  case round =>
    clear HST HVS HR0
    obtain ⟨L, Sn, a, haf, HS, HV, HRUN⟩ := hrel
    obtain ⟨An, cn, hnv, _⟩ := own_shape HS.out.now
    obtain ⟨At, cT, htv, _⟩ := own_shape HS.out.txt
    rw [List.length_map, List.length_map] at hnv htv
    subst hnv htv
    have hfew := HV.out.few
    by_cases hL0 : L.length = 0
    · have hLn : L = [] := List.length_eq_zero_iff.1 hL0
      have p1 : ¬ (0 : Int) < (L.length : Int) := by omega
      have HRR := Lib.hid (HRUN.out none (by rw [hLn]; exact .nil Sn))
      have HFIN := Lib.hid (HCX.out wr HS.out.low).2
      rw [hL0] at *
      clear hLn hL0 HS HV HRUN
      go_wp2_with fail
      go_ret2
      exact ⟨⟨none, HRR.out, rfl⟩, HFIN.out⟩
    · have p1 : (0 : Int) < (L.length : Int) := by omega
      obtain ⟨f, rfl⟩ : ∃ f, gk = f + 1 := ⟨gk - 1, by have := HN.out; omega⟩
      have HLM : Hid (L.length ≤ m) := Lib.hid (by have := HN.out; omega)
      have HLT : Hid (∀ j, j < L.length → lvN L j < m) := Lib.hid fun j hj => by
        have := HV.out.lt _ (HV.out.qs L[j] (List.getElem_mem hj))
        rw [lv_get hj] at this
        rw [← HN.out]; exact this
      have HNOW : Hid (∀ W, ShR w1 D (.slice An L.length cn) (.slice At L.length cT) u6 (.slice none 0 0) (.slice none 0 0) L [] Sn W → ∀ j, j < L.length → ∃ g, An = some ⟨g, 0, none⟩ ∧ W.cell? ⟨g, j, none⟩ = some (.int .i64 (lvN L j : Int))) := Lib.hid fun W h j hj => by
        have hh : W.ownsRow D 3 1 (.slice An L.length cn) ((L.map fun p => (p.1 : Int)).map (Value.int .i64)).length ((L.map fun p => (p.1 : Int)).map (Value.int .i64)) := h.now
        obtain ⟨g, e, hc⟩ := cell_own hh (j := j) (by rw [List.length_map, List.length_map]; exact hj)
        refine ⟨g, e, hc.trans ?_⟩
        rw [List.getElem_map, List.getElem_map, lv_get hj]
      have HHAF := Lib.hid haf
      clear hL0 hfew haf
      go_wp2_with fail
      go_loopg [7] L.length (fun f2 iv wx => ∃ k : Nat, k + f2 = L.length ∧ iv = .int .i64 (k : Int) ∧ Hid (ShR w1 D (.slice An L.length cn) (.slice At L.length cT) u6 (.slice none 0 0) (.slice none 0 0) L [] Sn wx) ∧ Hid (∀ j, j < k → bo M.tk (lvN L j) = false))
      case atStart => exact ⟨0, by omega, rfl, HS, Lib.hid fun j hj => absurd hj (by omega)⟩
      case round =>
        clear HS
        obtain ⟨k, hkf, rfl, HS, HNT⟩ := hrel
        obtain ⟨⟨a0, a1, a2⟩, hbw⟩ := HCX.out wr HS.out.low
        by_cases hlk : k < L.length
        · obtain ⟨f2, rfl⟩ : ∃ f, gk = f + 1 := ⟨gk - 1, by omega⟩
          have q1 : (k : Int) < (L.length : Int) := by omega
          have q2 : IntKind.i64.wrap ((k : Int) + 1) = (k : Int) + 1 := i64_in _ (by have := HLM.out; omega)
          obtain ⟨gn, hAn, cn1⟩ := HNOW.out wr HS.out k hlk
          subst hAn
          have hlt := HLT.out k hlk
          have ct := HTC.out wr HS.out.low _ hlt
          have q3 : (lvN L k : Int) < (m : Int) := by omega
          have hd := lv_drop hlk
          by_cases hb : bo M.tk (lvN L k) = true
          · rw [hb] at ct
            have HRR := Lib.hid (HRUN.out (some (lvT L k)) (by
              have h := Run.level (M := M) (q := (lvN L k, lvT L k)) hb (L.take k) (L.drop (k + 1)) Sn (fun p hp => by
                obtain ⟨j, hj, rfl⟩ := List.getElem_of_mem hp
                rw [List.length_take] at hj
                rw [List.getElem_take, lv_get (by omega)]
                exact HNT.out j (by omega))
              rw [← hd, List.take_append_drop] at h
              exact h))
            have HFIN := Lib.hid hbw
            have hh : wr.ownsRow D 9 1 (.slice At L.length cT) ((L.map Prod.snd).map (fun l => Value.string ⟨l.toArray⟩)).length ((L.map Prod.snd).map (fun l => Value.string ⟨l.toArray⟩)) := HS.out.txt
            obtain ⟨gt, hAt, tx⟩ := cell_own hh (j := k) (by rw [List.length_map, List.length_map]; exact hlk)
            subst hAt
            rw [List.getElem_map, List.getElem_map, lv_get hlk] at tx
            generalize lvN L k = i at *
            clear hd hb hh HNOW HRX HTC HLT HS hbw
            go_wp2_with fail
            go_quiet (fail)
            go_wp2_with fail
            go_ret2
            exact ⟨⟨some (lvT L k), HRR.out, rfl⟩, below_drewN HFIN.out _⟩
          · have hb' : bo M.tk (lvN L k) = false := by simpa using hb
            rw [hb'] at ct
            have HN2 : Hid (∀ j, j < k + 1 → bo M.tk (lvN L j) = false) := Lib.hid fun j hj => by
              rcases Nat.lt_or_ge j k with hl | hl
              · exact HNT.out j hl
              · obtain rfl : j = k := by omega
                exact hb'
            generalize lvN L k = i at *
            clear hd hb hb' hbw
            go_wp2_with fail
            go_quiet (fail)
            go_wp2_with fail
            have HS2 := Lib.hid (HS.out.drewN nq)
            go_roundg f2
            case measure => omega
            case rel => exact ⟨k + 1, by omega, by simp, HS2, HN2⟩
        · obtain rfl : L.length = k := by omega
          have q1 : ¬ (L.length : Int) < (L.length : Int) := by omega
          have HNA := Lib.hid HNT.out
          have HV0 : Hid (Vs M (a + 0) (L.drop 0 ++ []) Sn) := Lib.hid (by rw [List.append_nil]; exact HV.out)
          have HRU0 : Hid (∀ r, Run M (L.drop 0 ++ []) Sn r → Run M [(0, [])] [0] r) := Lib.hid (by rw [List.append_nil]; exact HRUN.out)
          clear HNT hbw HV HRUN HNOW
          go_wp2_with fail
          clear a0 a1 a2
          go_loopg [6, 8, 9, 10] L.length (fun f2 mv xv yv iv wx => ∃ (k : Nat) (N : List (Nat × List UInt8)) (Sq : List Nat), k + f2 = L.length ∧ iv = .int .i64 (k : Int) ∧ Hid (ShR w1 D (.slice An L.length cn) (.slice At L.length cT) mv xv yv L N Sq wx) ∧ Hid (Vs M (a + k) (L.drop k ++ N) Sq) ∧ Hid (∀ r, Run M (L.drop k ++ N) Sq r → Run M [(0, [])] [0] r))
          case atStart => exact ⟨0, [], Sn, by omega, rfl, HS, HV0, HRU0⟩
          case round =>
            clear HS HV0 HRU0
            obtain ⟨k, N, Sq, hkf, rfl, HS, HV, HRUN⟩ := hrel
            by_cases hlk : k < L.length
            · obtain ⟨f2, rfl⟩ : ∃ f, gk = f + 1 := ⟨gk - 1, by omega⟩
              have q1 : (k : Int) < (L.length : Int) := by omega
              have q2 : IntKind.i64.wrap ((k : Int) + 1) = (k : Int) + 1 := i64_in _ (by have := HLM.out; omega)
              have HLK := Lib.hid hlk
              have HDR := Lib.hid (lv_drop hlk)
              have HX0 : Hid (ShR w1 D (.slice An L.length cn) (.slice At L.length cT) u6 u8 u9 L (pushG M (lvN L k) (lvT L k) N Sq 0).1 (pushG M (lvN L k) (lvT L k) N Sq 0).2 wr) := Lib.hid HS.out
              have HV1 : Hid (Vs M (a + k) (L.drop k ++ (pushG M (lvN L k) (lvT L k) N Sq 0).1) (pushG M (lvN L k) (lvT L k) N Sq 0).2) := Lib.hid HV.out
              have HNX : Hid (∀ r, Run M (L.drop (k + 1) ++ (pushG M (lvN L k) (lvT L k) N Sq M.s).1) (pushG M (lvN L k) (lvT L k) N Sq M.s).2 r → Run M [(0, [])] [0] r) := Lib.hid fun r h => HRUN.out r (by rw [HDR.out]; exact Run.next (HNA.out k HLK.out) h)
              clear HS HV HRUN hlk
              go_wp2_with fail
              go_loopg [6, 8, 9, 11] M.s (fun f3 mv xv yv cv wx => ∃ d : Nat, d + f3 = M.s ∧ cv = .int .i64 (d : Int) ∧ Hid (ShR w1 D (.slice An L.length cn) (.slice At L.length cT) mv xv yv L (pushG M (lvN L k) (lvT L k) N Sq d).1 (pushG M (lvN L k) (lvT L k) N Sq d).2 wx) ∧ Hid (Vs M (a + k) (L.drop k ++ (pushG M (lvN L k) (lvT L k) N Sq d).1) (pushG M (lvN L k) (lvT L k) N Sq d).2))
              case atStart => exact ⟨0, by omega, rfl, HX0, HV1⟩
              case round =>
                clear HX0 HV1
                obtain ⟨d, hdf, rfl, HX, HV⟩ := hrel
                obtain ⟨⟨a0, a1, a2⟩, hbw⟩ := HCX.out wr HX.out.low
                by_cases hld : d < M.s
                · obtain ⟨f3, rfl⟩ : ∃ f, gk = f + 1 := ⟨gk - 1, by omega⟩
                  have r1 : (d : Int) < (M.s : Int) := by omega
                  have r2 : IntKind.i64.wrap ((d : Int) + 1) = (d : Int) + 1 := i64_in _ (by have := HO.out.few; omega)
                  have hlt := HLT.out k HLK.out
                  have hne : ¬ M.s = 0 := by omega
                  obtain ⟨_, b4, o4, cc4, u1, u2⟩ := HRX.out wr HX.out.low _ hlt
                  rw [if_neg hne] at u1
                  have u5 := u2 d hld
                  have hst : M.st (lvN L k) d < m := by rw [← HN.out]; exact HO.out.st_lt (by rw [HN.out]; exact hlt) hld
                  have hn0 : wr.ownsRow D 3 1 (.slice An L.length cn) ((L.map fun p => (p.1 : Int)).map (Value.int .i64)).length ((L.map fun p => (p.1 : Int)).map (Value.int .i64)) := HX.out.now
                  obtain ⟨gn, hAn, tn⟩ := cell_own hn0 (j := k) (by rw [List.length_map, List.length_map]; exact HLK.out)
                  subst hAn
                  rw [List.getElem_map, List.getElem_map, lv_get HLK.out] at tn
                  obtain ⟨Am, cm, hmv, _⟩ := own_shape HX.out.met
                  rw [List.length_map, List.length_map] at hmv
                  subst hmv
                  have HMI := Lib.hid (ints_own2 HX.out.met)
                  have hql : (pushG M (lvN L k) (lvT L k) N Sq d).2.length ≤ 1000 := by have h1 := nodup_le HV.out.nd HV.out.lt; have := HN.out; omega
                  have q3 : (lvN L k : Int) < (m : Int) := by omega
                  have HHAS := Lib.hid (fun W (h : Ints W W.heap.size Am (pushG M (lvN L k) (lvT L k) N Sq d).2.length ((pushG M (lvN L k) (lvT L k) N Sq d).2.map fun x : Nat => (x : Int))) => has3_any Am _ cm W.heap.size _ (M.st (lvN L k) d : Int) W h (by omega))
                  have hmem : ((M.st (lvN L k) d : Int) ∈ (pushG M (lvN L k) (lvT L k) N Sq d).2.map fun x : Nat => (x : Int)) ↔ M.st (lvN L k) d ∈ (pushG M (lvN L k) (lvT L k) N Sq d).2 := by
                    rw [List.mem_map]
                    constructor
                    · rintro ⟨x, hx, e⟩
                      have : x = M.st (lvN L k) d := by omega
                      rw [← this]; exact hx
                    · exact fun h => ⟨_, h, rfl⟩
                  by_cases hin : M.st (lvN L k) d ∈ (pushG M (lvN L k) (lvT L k) N Sq d).2
                  · rw [decide_eq_true (hmem.2 hin)] at HHAS
                    have HGO := Lib.hid (pushG_in hin)
                    generalize M.st (lvN L k) d = t at *
                    clear hin hmem u2 hne hn0 hbw
                    go_wp2_with fail
                    go_quiet (fail)
                    go_wp2_with fail
                    refine (HHAS.out _ ?_).mono ?_
                    · exact (HMI.out.more (Nat.le_refl _) : _)
                    rintro e w' ⟨rfl, rfl⟩
                    go_wp2_with fail
                    have HX2 := Lib.hid (HX.out.drewN nq)
                    go_roundg f3
                    case measure => omega
                    case rel => exact ⟨d + 1, by omega, by simp, by rw [HGO.out]; exact HX2, by rw [HGO.out]; exact HV⟩
                  · rw [decide_eq_false (fun h => hin (hmem.1 h))] at HHAS
                    have hh : wr.ownsRow D 9 1 (.slice At L.length cT) ((L.map Prod.snd).map (fun l => Value.string ⟨l.toArray⟩)).length ((L.map Prod.snd).map (fun l => Value.string ⟨l.toArray⟩)) := HX.out.txt
                    obtain ⟨gt, hAt, _⟩ := cell_own hh (j := k) (by rw [List.length_map, List.length_map]; exact HLK.out)
                    subst hAt
                    have HGO := Lib.hid (pushG_out hin)
                    have HVN := Lib.hid (show Vs M (a + k) (L.drop k ++ (pushG M (lvN L k) (lvT L k) N Sq (d + 1)).1) (pushG M (lvN L k) (lvT L k) N Sq (d + 1)).2 by
                      rw [pushG_out hin, ← List.append_assoc]
                      refine HV.out.add (by rw [HN.out]; exact hst) hin ?_
                      rw [List.length_append]
                      exact HV.out.ln (lvN L k, lvT L k) (List.mem_append_left _ (by rw [HDR.out]; exact List.mem_cons_self)))
                    have hxl : (lvT L k).length < 1000 := by
                      have h1 := HV.out.ln_n (q := (lvN L k, lvT L k)) (List.mem_append_left _ (by rw [HDR.out]; exact List.mem_cons_self))
                      have h2 := HN.out
                      simp only at h1; omega
                    have hc1 : ¬ 9223372036854775807 < (lvT L k).length + 1 := by omega
                    have hdl : d < M.sg.length := hld
                    have hex : (ByteArray.mk M.sg.toArray).extract d (d + 1) = ByteArray.mk [bu M.sg d].toArray := by
                      rw [Lib.extract_eq]
                      congr 1
                      have h1 : M.sg.drop d = bu M.sg d :: M.sg.drop (d + 1) := by rw [List.drop_eq_getElem_cons hdl]; unfold bu; rw [List.getElem?_eq_getElem hdl]; rfl
                      simp [h1]
                    have r1n := Lib.hid hdl
                    have HEX := Lib.hid hex; have HC1 := Lib.hid hc1
                    have HNL : Hid ((pushG M (lvN L k) (lvT L k) N Sq d).1.length ≤ 1000) := Lib.hid (by have h1 := HV.out.few; rw [List.length_append] at h1; have := HN.out; omega)
                    have HQL := Lib.hid hql
                    have HDW : Hid (D ≤ wr.heap.size) := Lib.hid (by have := HX.out.low.size; rw [← HD.out]; exact this)
                    generalize M.st (lvN L k) d = t at *
                    generalize pushG M (lvN L k) (lvT L k) N Sq d = pg at *
                    obtain ⟨N1, S1⟩ := pg
                    simp only [] at *
                    clear hin hmem u2 hne hn0 hbw hh hxl hc1 hex HV
                    go_wp2_with fail
                    go_quiet (fail)
                    go_wp2_with fail
                    refine (HHAS.out _ ?_).mono ?_
                    · exact (HMI.out.more (Nat.le_refl _) : _)
                    rintro e w' ⟨rfl, rfl⟩
                    have HX2 := Lib.hid (HX.out.drewN nq)
                    have HDW2 : Hid (D ≤ (wr.drewN nq).heap.size) := Lib.hid HDW.out
                    clear HX HMI HHAS tn u1 u5 a0 a1 a2
                    generalize wr.drewN nq = wq at *
                    have hnx := HX2.out.nxt
                    go_upto_region 22 with (first
                      | (at_builtin; refine wpList_append1g rfl (.tmp 65) (.tmp 67) _ rfl 3 i0 _ Tryd.underlying44 hi0 hz0 hz1 (by omega) rfl D _ ((S1.map fun x : Nat => (x : Int)).map (Value.int .i64)) (.int .i64 (t : Int)) rfl rfl rfl HX2.out.met (by rw [List.length_map, List.length_map]; have := HQL.out; omega) HDW2.out ?_; intro v9 w9 hown9 hgr9 hloc9)
                      | (at_builtin; refine wpList_append1g rfl (.tmp 69) (.tmp 71) _ rfl 3 i0 _ Tryd.underlying44 hi0 hz0 hz1 (by omega) rfl D u8 ((N1.map fun p => (p.1 : Int)).map (Value.int .i64)) (.int .i64 (t : Int)) rfl rfl rfl (own_kept HX2.out.nxt hgr9 (fun k hk e => HX2.out.n3 k e hk)) (by rw [List.length_map, List.length_map]; have := HNL.out; omega) (by have := HDW2.out; have := hgr9.size; omega) ?_; intro v10 wz hown10 hgr10 hloc10))
                    clear hnx
                    have HG2 := Lib.hid hgr10
                    have HADD := Lib.hid (fun (y : List UInt8) (yv' : Value) (w3 : World) (g3 : wz.drew.grownBy w3 u9.ownBlock) l3 o3 => HX2.out.add (y := y) (yv' := yv') (w3 := w3) hgr9 hloc9 hown9 hgr10 hloc10 hown10 g3 l3 o3 HDW2.out)
                    have ity : ∀ {u : Value} {n : Nat} {xs : List Value} {W : World} {k : Nat}, W.ownsRow D 3 1 u n xs → u.ownBlock = some k → ∀ {u2 : Value} {n2 : Nat} {xs2 : List Value}, W.ownsRow D 9 1 u2 n2 xs2 → u2.ownBlock ≠ some k := fun h1 hk _ _ _ h2 e => by
                      obtain ⟨cs, hc⟩ := own_typed h1 hk
                      obtain ⟨cs', hc'⟩ := own_typed h2 e
                      exact ty_ne hc hc' (by decide)
                    have hnx9 := own_kept HX2.out.nxt hgr9 (fun k hk e => HX2.out.n3 k e hk)
                    have ht9 := own_kept HX2.out.txt hgr9 (fun k hk e => ity HX2.out.met e HX2.out.txt hk)
                    have hy9 := own_kept HX2.out.mor hgr9 (fun k hk e => ity HX2.out.met e HX2.out.mor hk)
                    have ht10 := own_kept ht9 hgr10 (fun k hk e => ity hnx9 e ht9 hk)
                    have hy10 := own_kept hy9 hgr10 (fun k hk e => ity hnx9 e hy9 hk)
                    have hlow10 := (HX2.out.low.grown hgr9 HDW2.out (fun k hk => own_lt HX2.out.met hk)).grown hgr10 (by have := HDW2.out; have := hgr9.size; omega) (fun k hk => own_lt hnx9 hk)
                    obtain ⟨⟨z0, y1, y2⟩, hbz⟩ := HCX.out wz hlow10
                    obtain ⟨gt', hgt, z1⟩ := cell_own ht10 (j := k) (by rw [List.length_map, List.length_map]; exact HLK.out)
                    injection hgt with hgt; injection hgt with hgt _ _
                    subst hgt
                    rw [List.getElem_map, List.getElem_map, lv_get HLK.out] at z1
                    have HYO := Lib.hid hy10
                    have HYL : Hid (((N1.map Prod.snd).map (fun l => Value.string ⟨l.toArray⟩)).length ≤ 1000000) := Lib.hid (by rw [List.length_map, List.length_map]; have := HNL.out; omega)
                    have HN4 := Lib.hid (fun e => HX2.out.n4 gt rfl e)
                    have HLZ : Hid (w.heap.size < wz.heap.size ∧ gt < wz.heap.size) := Lib.hid ⟨by have h1 := hlow10.size; have := HD.out; have := HZ1.out; omega, (ht10.lt gt rfl).2⟩
                    have HDZ : Hid (D ≤ wz.heap.size) := Lib.hid (by have := hlow10.size; rw [← HD.out]; exact this)
                    have hex := HEX.out
                    have hc1 := HC1.out
                    have hdl : d < M.sg.length := r1n.out
                    clear hown9 hgr9 hloc9 hown10 hgr10 hloc10 ity hnx9 ht9 hy9 ht10 hy10 hlow10 hbz y1 y2
                    have hs1 : (0 : Int) ≤ (d : Int) + 1 ∧ (d : Int) + 1 ≤ (M.sg.length : Int) := by omega
                    have hs2 : (d : Int) ≤ (d : Int) + 1 := by omega
                    have s0 : wz.drew.cell? ⟨w.heap.size, 0, none⟩ = some (S M.sg) ∧ wz.drew.cell? ⟨gt, k, none⟩ = some (S (lvT L k)) := ⟨z0, z1⟩
                    have s1 : (wz.drew.alloc (.cells #[S (lvT L k ++ [bu M.sg d])] 9)).cell? ⟨w.heap.size, 0, none⟩ = some (S M.sg) ∧ (wz.drew.alloc (.cells #[S (lvT L k ++ [bu M.sg d])] 9)).cell? ⟨gt, k, none⟩ = some (S (lvT L k)) := ⟨(World.cell?_alloc_lt wz.drew _ ⟨w.heap.size, 0, none⟩ (show w.heap.size < wz.heap.size from HLZ.out.1)).trans z0, (World.cell?_alloc_lt wz.drew _ ⟨gt, k, none⟩ (show gt < wz.heap.size from HLZ.out.2)).trans z1⟩
                    refine wp_region_held_drew (S := fun W => W.cell? ⟨w.heap.size, 0, none⟩ = some (S M.sg) ∧ W.cell? ⟨gt, k, none⟩ = some (S (lvT L k))) (by first | assumption | kernel_rfl | rfl) s0 (fun hH => ?_)
                    refine wpAnyH_take (i := 0) (v := ?_) rfl (by kernel_rfl) (by kernel_rfl) (by kernel_rfl) (fun _ _ _ h => h) (Or.inl ⟨by rfl, ?_⟩) hH ?_
                    rotate_left
                    · intro W hSw; (try dsimp only at hSw); go_simp; try with_reducible rfl
                    try simp only [Act.put, List.getElem_toArray, List.getElem_cons_zero, List.getElem_cons_succ, List.setIfInBounds_toArray, List.set_cons_zero, List.set_cons_succ]
                    refine wpAnyH_take (i := 1) (v := ?_) rfl (by kernel_rfl) (by kernel_rfl) (by kernel_rfl) (fun _ _ _ h => h) (Or.inl ⟨by rfl, ?_⟩) hH ?_
                    rotate_left
                    · intro W hSw; (try dsimp only at hSw); go_simp; try with_reducible rfl
                    try simp only [Act.put, List.getElem_toArray, List.getElem_cons_zero, List.getElem_cons_succ, List.setIfInBounds_toArray, List.set_cons_zero, List.set_cons_succ]
                    refine wpAnyH_take (i := 2) (v := ?_) rfl (by kernel_rfl) (by kernel_rfl) (by kernel_rfl) (fun _ _ _ h => h) (Or.inl ⟨by rfl, ?_⟩) hH ?_
                    rotate_left
                    · intro W hSw; (try dsimp only at hSw); go_simp; try with_reducible rfl
                    try simp only [Act.put, List.getElem_toArray, List.getElem_cons_zero, List.getElem_cons_succ, List.setIfInBounds_toArray, List.set_cons_zero, List.set_cons_succ]
                    refine wpAnyH_take (i := 3) (v := ?_) rfl (by kernel_rfl) (by kernel_rfl) (by kernel_rfl) (fun _ _ _ h => h) (Or.inl ⟨by rfl, ?_⟩) hH ?_
                    rotate_left
                    · intro W hSw; (try dsimp only at hSw); go_simp; try with_reducible rfl
                    try simp only [Act.put, List.getElem_toArray, List.getElem_cons_zero, List.getElem_cons_succ, List.setIfInBounds_toArray, List.set_cons_zero, List.set_cons_succ]
                    refine wpAnyH_take (i := 4) (v := ?_) rfl (by kernel_rfl) (by kernel_rfl) (by kernel_rfl) (fun _ _ _ h => h) (Or.inl ⟨by rfl, ?_⟩) hH ?_
                    rotate_left
                    · intro W hSw; (try dsimp only at hSw); go_simp; try with_reducible rfl
                    try simp only [Act.put, List.getElem_toArray, List.getElem_cons_zero, List.getElem_cons_succ, List.setIfInBounds_toArray, List.set_cons_zero, List.set_cons_succ]
                    refine wpAnyH_take (i := 5) (v := ?_) rfl (by kernel_rfl) (by kernel_rfl) (by kernel_rfl) (fun _ _ _ h => h) (Or.inl ⟨by rfl, ?_⟩) hH ?_
                    rotate_left
                    · intro W hSw; (try dsimp only at hSw); go_simp; try with_reducible rfl
                    try simp only [Act.put, List.getElem_toArray, List.getElem_cons_zero, List.getElem_cons_succ, List.setIfInBounds_toArray, List.set_cons_zero, List.set_cons_succ]
                    refine wpAnyH_take (i := 6) (v := ?_) rfl (by kernel_rfl) (by kernel_rfl) (by kernel_rfl) (fun _ _ _ h => h) (Or.inl ⟨by rfl, ?_⟩) hH ?_
                    rotate_left
                    · intro W hSw; (try dsimp only at hSw); go_simp; try with_reducible rfl
                    try simp only [Act.put, List.getElem_toArray, List.getElem_cons_zero, List.getElem_cons_succ, List.setIfInBounds_toArray, List.set_cons_zero, List.set_cons_succ]
                    refine wpAnyH_take (i := 7) (v := ?_) rfl (by kernel_rfl) (by kernel_rfl) (by kernel_rfl) (fun _ _ _ h => h) (Or.inl ⟨by rfl, ?_⟩) hH ?_
                    rotate_left
                    · intro W hSw; (try dsimp only at hSw); go_simp; try with_reducible rfl
                    try simp only [Act.put, List.getElem_toArray, List.getElem_cons_zero, List.getElem_cons_succ, List.setIfInBounds_toArray, List.set_cons_zero, List.set_cons_succ]
                    refine wpAnyH_take (i := 8) (v := ?_) rfl (by kernel_rfl) (by kernel_rfl) (by kernel_rfl) (fun _ _ _ h => h) (Or.inl ⟨by rfl, ?_⟩) hH ?_
                    rotate_left
                    · intro W hSw; (try dsimp only at hSw); go_simp; try with_reducible rfl
                    try simp only [Act.put, List.getElem_toArray, List.getElem_cons_zero, List.getElem_cons_succ, List.setIfInBounds_toArray, List.set_cons_zero, List.set_cons_succ]
                    refine wpAnyH_take (i := 9) (v := ?_) rfl (by kernel_rfl) (by kernel_rfl) (by kernel_rfl) (fun _ _ _ h => h) (Or.inl ⟨by rfl, ?_⟩) hH ?_
                    rotate_left
                    · intro W hSw; (try dsimp only at hSw); go_simp; try with_reducible rfl
                    try simp only [Act.put, List.getElem_toArray, List.getElem_cons_zero, List.getElem_cons_succ, List.setIfInBounds_toArray, List.set_cons_zero, List.set_cons_succ]
                    refine wpAnyH_take (i := 10) (v := ?_) rfl (by kernel_rfl) (by kernel_rfl) (by kernel_rfl) (fun _ _ _ h => h) (Or.inl ⟨by rfl, ?_⟩) hH ?_
                    rotate_left
                    · intro W hSw; (try dsimp only at hSw); go_simp; try with_reducible rfl
                    try simp only [Act.put, List.getElem_toArray, List.getElem_cons_zero, List.getElem_cons_succ, List.setIfInBounds_toArray, List.set_cons_zero, List.set_cons_succ]
                    refine wpAnyH_take (i := 11) (v := ?_) rfl (by kernel_rfl) (by kernel_rfl) (by kernel_rfl) (fun _ _ _ h => h) (Or.inl ⟨by rfl, ?_⟩) hH ?_
                    rotate_left
                    · intro W hSw; (try dsimp only at hSw); go_simp; try with_reducible rfl
                    try simp only [Act.put, List.getElem_toArray, List.getElem_cons_zero, List.getElem_cons_succ, List.setIfInBounds_toArray, List.set_cons_zero, List.set_cons_succ]
                    refine wpAnyH_ready (rs := [12]) (by kernel_rfl) (by simp) (AllReadyH.cons rfl (fun K hK => ?_) AllReadyH.nil)
                    go_simp
                    change K _ (wz.drew.alloc (.cells #[S (lvT L k ++ [bu M.sg d])] 9))
                    refine hK.out _ _ s1 (fun hH5 => ?_)
                    clear hK K
                    try simp only [Act.put, List.getElem_toArray, List.getElem_cons_zero, List.getElem_cons_succ, List.setIfInBounds_toArray, List.set_cons_zero, List.set_cons_succ]
                    refine wpAnyH_ready (rs := [13]) (by kernel_rfl) (by simp) (AllReadyH.cons rfl (fun K hK => ?_) AllReadyH.nil)
                    rw [if_pos (by rfl)]
                    refine wp_append1g (w := wz.drew) (.tmp 73) (.tmp 85) _ rfl 9 i1 _ Tryd.underlying48 hi1 hy0 hy1 (by omega) rfl D u9 _ (S (lvT L k ++ [bu M.sg d])) rfl rfl rfl HYO.out HYL.out (by show D ≤ wz.heap.size; exact HDZ.out) ?_
                    intro v11 w11 hown11 hgr11 hloc11
                    have s2 : w11.cell? ⟨w.heap.size, 0, none⟩ = some (S M.sg) ∧ w11.cell? ⟨gt, k, none⟩ = some (S (lvT L k)) := ⟨(World.cell?_of_block (a := ⟨w.heap.size, 0, none⟩) (hgr11.block w.heap.size HLZ.out.1 (fun e => by have := own_lt HYO.out e.symm; have := HZ1.out; omega))).trans z0, (World.cell?_of_block (a := ⟨gt, k, none⟩) (hgr11.block gt HLZ.out.2 (fun e => HN4.out e.symm))).trans z1⟩
                    try simp only [Act.put, List.getElem_toArray, List.getElem_cons_zero, List.getElem_cons_succ, List.setIfInBounds_toArray, List.set_cons_zero, List.set_cons_succ]
                    refine hK.out _ _ s2 (fun hH7 => ?_)
                    clear hK K
                    try simp only [Act.put, List.getElem_toArray, List.getElem_cons_zero, List.getElem_cons_succ, List.setIfInBounds_toArray, List.set_cons_zero, List.set_cons_succ]
                    refine wpAnyH_take (i := 14) (v := ?_) rfl (by kernel_rfl) (by kernel_rfl) (by kernel_rfl) (fun _ _ _ h => h) (Or.inl ⟨by rfl, ?_⟩) hH7 ?_
                    rotate_left
                    · intro W hSw; (try dsimp only at hSw); go_simp; try with_reducible rfl
                    try simp only [Act.put, List.getElem_toArray, List.getElem_cons_zero, List.getElem_cons_succ, List.setIfInBounds_toArray, List.set_cons_zero, List.set_cons_succ]
                    refine wpAnyH_done (by kernel_rfl) ?_ _
                    have HXN := Lib.hid (HADD.out (lvT L k ++ [bu M.sg d]) v11 w11 hgr11 hloc11 hown11)
                    clear hH hH5 hH7 s0 s1 s2 z0 z1 hown11 hgr11 hloc11 hex hc1 hdl hs1 hs2
                    go_wp2_with fail
                    go_roundg f3
                    case measure => omega
                    case rel => exact ⟨d + 1, by omega, by simp, by rw [HGO.out]; exact HXN, HVN⟩
                · obtain rfl : M.s = d := by omega
                  have r1 : ¬ (M.s : Int) < (M.s : Int) := by omega
                  have HV2 := Lib.hid (show Vs M (a + (k + 1)) (L.drop (k + 1) ++ (pushG M (lvN L k) (lvT L k) N Sq M.s).1) (pushG M (lvN L k) (lvT L k) N Sq M.s).2 by
                    have h := HV.out
                    rw [HDR.out, List.cons_append] at h
                    have h2 := h.pop
                    rw [Nat.add_assoc] at h2
                    exact h2)
                  clear HV hbw a1 a2
                  go_wp2_with fail
                  go_roundg f2
                  case measure => omega
                  case rel => exact ⟨k + 1, _, _, by omega, by simp, HX, HV2, HNX⟩
            · obtain rfl : L.length = k := by omega
              have q1 : ¬ (L.length : Int) < (L.length : Int) := by omega
              have HT := Lib.hid HS.out.turn
              have HVT := HV
              rw [List.drop_length, List.nil_append] at HVT HRUN
              have HHA := HHAF.out
              clear HS HV
              go_wp2_with fail
              go_roundg f
              case measure => omega
              case rel => exact ⟨N, Sq, a + L.length, by omega, HT, HVT, HRUN⟩
end Go.Proofs.YtfglajddibjnjaaDoor
