/- The law BookTorn: its walk. Condition: internal/strconv.uint64pow10 reads as the library's text lays it; internal/bytealg.MaxLen holds an integer. -/
import Derived.Test.YteoofkinmilckaaDoorBookT
namespace Go.Proofs.YteoofkinmilckaaDoor
open Go.RowKit IntWalk
attribute [local go_sem] byte_at str_app
attribute [local go_sem ↓] Go.wp_at_zero Go.wp_at_succ

theorem stE_prefix : ∀ (t es : List Ev) (j : Nat), j ≤ es.length → stE (es ++ t) j = stE es j
  | [], es, j, _ => by rw [List.append_nil]
  | e :: t, es, j, h => by
    rw [show es ++ e :: t = (es ++ [e]) ++ t by simp, stE_prefix t (es ++ [e]) j (by simp; omega), stE_append es e j h]
theorem stEv_prefix (L : List Int) (W : List (List UInt8)) (k : Nat) : ∀ d, ∃ t, stEv L W (k + d) = stEv L W k ++ t
  | 0 => ⟨[], by simp⟩
  | d + 1 => by
    obtain ⟨t, ht⟩ := stEv_prefix L W k d
    exact ⟨t ++ evOf (stS L W (k + d)) (gi L (2 * (k + d))) (gi L (2 * (k + d) + 1)) (li W (k + d)), by
      show stEv L W (k + d) ++ evOf (stS L W (k + d)) (gi L (2 * (k + d))) (gi L (2 * (k + d) + 1)) (li W (k + d)) = _
      rw [ht, List.append_assoc]⟩
/-- The state behind k steps is what as many changes make as were done by then. -/
theorem stS_at (L : List Int) (W : List (List UInt8)) {k K : Nat} (h : k ≤ K) : stS L W k = stE (stEv L W K) (stEv L W k).length ∧ (stEv L W k).length ≤ (stEv L W K).length := by
  obtain ⟨t, ht⟩ := stEv_prefix L W k (K - k)
  rw [show k + (K - k) = K by omega] at ht
  rw [ht, stE_prefix t _ _ (Nat.le_refl _)]
  exact ⟨((stS_logs L W k).at_.1).symm, by simp⟩
theorem evOf_len (s : BS) (p q : Int) (x : List UInt8) : (evOf s p q x).length = if (stepS s p q x).1 = 0 then 1 else 0 := by
  unfold evOf
  by_cases h : (stepS s p q x).1 = 0
  · rw [if_pos h, if_pos h]; rfl
  · rw [if_neg h, if_neg h]; rfl
theorem ends_succ {l : List UInt8} {i : Nat} (h : i < l.length) : ends (l.take (i + 1)) = ends (l.take i) + if bu l i = 10 then 1 else 0 := by
  unfold ends
  rw [take_succ_bu h, List.countP_append]
  congr 1
  by_cases e : bu l i = 10
  · rw [if_pos e]; simp [e]
  · rw [if_neg e]; simp [e]
theorem Two.step2 {B b Bo bo : Nat} {s so : BS} {w : World} (h : Two B b s Bo bo so w) (A A2 : Option Addr) (n c m c2 k : Nat) (L : List Int) (W : List (List UInt8)) (ht : TG w) (hs : Smalls so) (hBw : Bo ≤ w.heap.size) (hB0 : 2 < Bo)
    (hL : Ints w Bo A n L) (hW : Strs w Bo A2 m W) (hW9 : ∀ x ∈ W, x.length ≤ 9223372036854775807) (hk : k < m) (hk2 : 2 * k + 1 < n) (hk70 : k < 70) :
    Calls Tryd.prog 24 #[.pointer (some ⟨bo, 0, none⟩), .slice A n c, .slice A2 m c2, .int .i64 (k : Int)] w fun e w' => e = .returned (errV (stepS so (gi L (2 * k)) (gi L (2 * k + 1)) (li W k)).1) ∧ Two B b s Bo bo (stepS so (gi L (2 * k)) (gi L (2 * k + 1)) (li W k)).2 w' ∧ Below Bo w w' := by
  obtain ⟨F, h1, h2⟩ := h.swap.op
  refine (step_any F Bo bo so w A A2 n c m c2 k L W h1 ht hs hBw hB0 hL hW hW9 hk hk2 hk70).mono ?_
  rintro e w' ⟨rfl, hb, hk⟩
  exact ⟨rfl, (h2 w' _ hk).swap, hb⟩

set_option maxRecDepth 100000 in
set_option maxHeartbeats 8000000 in
theorem bookTorn_walk (w : World) (A A2 : Option Addr) (n c m c2 : Nat) (L : List Int) (W : List (List UInt8)) (N : Int) (ht : TG w) (hm : ML w)
    (hL : Ints w w.heap.size A n L) (hW : Strs w w.heap.size A2 m W) (hW9 : ∀ x ∈ W, x.length ≤ 9223372036854775807) :
    Calls Tryd.prog 6 #[.slice A n c, .slice A2 m c2, .int .i64 N] w fun e w' => e = .returned (.bool true) ∧ Below w.heap.size w w' := by
  have HL := Lib.hid hL; have HW := Lib.hid hW; have HW9 := Lib.hid hW9; have HT := Lib.hid ht; have HM := Lib.hid hm
  clear hL hW hW9 ht hm
  go_enter Tryd.func6, Tryd.ntmps6
  go_wp2_with fail
  refine (bookFact_any w HT.out).mono ?_
  rintro e w1 ⟨rfl, hb1⟩
  have HB1 := Lib.hid hb1
  have HT1 := Lib.hid (HT.out.below hb1 (Nat.le_refl _))
  have HL1 := Lib.hid ((HL.out.below hb1).more hb1.size)
  have HW1 := Lib.hid ((HW.out.below hb1).more hb1.size)
  have HSZ := Lib.hid hb1.size
  clear hb1
  go_wp2_with fail
  refine (put_all nF w1 A A2 n c m c2 L W HT1.out HL1.out HW1.out HW9.out (fun _ _ h => by cases h)).mono ?_
  rintro e w2 ⟨rfl, hk2, hb2⟩
  have HLG := Lib.hid (stS_logs L W (putK n m))
  have HKK : Hid (putK n m = min 70 (min m (n / 2))) := Lib.hid rfl
  generalize putK n m = K at *
  have HES : Hid (∀ k, k ≤ K → stS L W k = stE (stEv L W K) (stEv L W k).length ∧ (stEv L W k).length ≤ (stEv L W K).length) := Lib.hid fun k hk => stS_at L W hk
  generalize hes : stEv L W K = es at *
  have HEQ := Lib.hid hes
  clear hes
  generalize stS L W K = st at *
  have HB2 := Lib.hid (HB1.out.trans (hb2.mono HSZ.out))
  have HZ2 := Lib.hid hb2.size
  have HK2 := Lib.hid hk2
  clear hb2 hk2 HL1 HW1 HB1 HT1
  generalize w1.heap.size = B at *
  go_wp2_with fail
  refine (text_all nF B B st.now st.txt st.many w2 HK2.out HZ2.out).mono ?_
  rintro e w3 ⟨rfl, hk3, hb3⟩
  have HB3 := Lib.hid (HB2.out.trans (hb3.mono HSZ.out))
  clear hk3 hb3 HK2 HB2 HZ2
  obtain ⟨x1, x2, x3, x4⟩ := HLG.out.txt
  have hlen : st.txt.length ≤ 2000 := by rw [x1]; have := txtE_len x4; have := x3.2.1; omega
  have HTN : Hid (∀ q, ∃ r, st.txt.take q = txtE (es.take (ends (st.txt.take q))) ++ r ∧ (∀ c ∈ r, c ≠ 10) ∧ ends (st.txt.take q) ≤ es.length) := Lib.hid (by rw [x1]; exact txt_torn x4)
  have HAT := Lib.hid HLG.out.at_.2
  clear x1 x2 x3 x4
  generalize st.txt = T at *
  by_cases hn0 : N < 0
  · go_wp2_with fail
    go_ret
    exact ⟨rfl, HB3.out⟩
  obtain ⟨q, rfl⟩ : ∃ q : Nat, N = q := ⟨N.toNat, by omega⟩
  by_cases hnT : (T.length : Int) < (q : Int)
  · go_wp2_with fail
    go_ret
    exact ⟨rfl, HB3.out⟩
  have hqT : q ≤ T.length := by omega
  go_wp2_with fail
  go_loopg [9, 10] q (fun f lv iv wr => ∃ i : Nat, i + f = q ∧ iv = .int .i64 (i : Int) ∧ lv = .int .i64 ((ends (T.take i) : Nat) : Int) ∧ wr = w3)
  case atStart => exact ⟨0, by omega, rfl, by simp [ends], rfl⟩
  case round =>
    obtain ⟨i, hif, rfl, rfl, rfl⟩ := hrel
    have hee : ends (T.take i) ≤ 2000 := by
      have h1 : ends (T.take i) ≤ (T.take i).length := List.countP_le_length
      have h2 : (T.take i).length ≤ T.length := by rw [List.length_take]; omega
      omega
    by_cases hi : i < q
    · obtain ⟨f, rfl⟩ : ∃ f, gk = f + 1 := ⟨gk - 1, by omega⟩
      have hst := ends_succ (l := T) (i := i) (by omega)
      have f1 : IntKind.i64.wrap ((i : Int) + 1) = (i : Int) + 1 := i64_in _ (by omega)
      have f2 : (i : Int) < (T.length : Int) := by omega
      have f3 : i < T.length := by omega
      by_cases hb : bu T i = 10
      · rw [if_pos hb] at hst
        have HST := Lib.hid hst
        clear hst
        have q0 : (bu T i).toNat = 10 := by rw [hb]; rfl
        have q1 : ((bu T i).toNat : Int) = 10 := by omega
        generalize ends (T.take i) = E at *
        have f4 : IntKind.i64.wrap ((E : Int) + 1) = (E : Int) + 1 := i64_in _ (by omega)
        clear hb
        go_wp2_with fail
        go_roundg f
        case measure => omega
        case rel => exact ⟨i + 1, by omega, by simp, by rw [HST.out]; simp, rfl⟩
      · rw [if_neg hb] at hst
        have HST := Lib.hid hst
        clear hst
        have q0 : (bu T i).toNat ≠ 10 := fun e => hb (UInt8.toNat_inj.1 e)
        have q1 : ¬ ((bu T i).toNat : Int) = 10 := by omega
        have q2 : (((bu T i).toNat : Int) == 10) = false := by simpa using q1
        have q3 : ((bu T i).toNat == 10) = false := by simpa using q0
        generalize ends (T.take i) = E at *
        clear hb
        go_wp2_with fail
        go_roundg f
        case measure => omega
        case rel => exact ⟨i + 1, by omega, by simp, by rw [HST.out]; simp, rfl⟩
    · obtain rfl : i = q := by omega
      obtain ⟨r, hr1, hr2, hr3⟩ := HTN.out i
      generalize hj : ends (T.take i) = j at *
      have hlogj := (HAT.out j hr3).1
      have HOP := Lib.hid (open_any (es.take j) (stE es j) r wr hlogj hr2 (by rw [← hr1, List.length_take]; omega) (HT.out.below HB3.out (Nat.le_refl _)) (HM.out.below HB3.out HM.out.lt))
      have hjl : (es.take j).length = j := by rw [List.length_take]; omega
      rw [← hr1, hjl] at HOP
      have hoj : (stE es j).txt.length ≤ i := by
        rw [hlogj.txt.1]
        have h1 := congrArg List.length hr1
        rw [List.length_append, List.length_take] at h1
        omega
      clear hr1 hr2 hjl hj hlogj HTN HAT
      have hx := str_to T i
      have f1 : (0 : Int) ≤ (i : Int) := by omega
      have f2 : (i : Int) ≤ (T.length : Int) := by omega
      go_wp2_with fail
      refine HOP.out.mono ?_
      rintro e w4 ⟨⟨bo, rfl, ho⟩, hb4⟩
      have HO4 := Lib.hid ho
      have HB4 := Lib.hid (HB3.out.trans (hb4.mono HB3.out.size))
      have HBo := Lib.hid HB3.out.size
      have HLo := Lib.hid (Nat.lt_of_lt_of_le HT.out.lt HB3.out.size)
      have HZo := Lib.hid hb4.size
      clear ho hb4 HOP HB3 hx
      generalize wr.heap.size = Bo at *
      go_wp2_with fail
      refine (new_any nF w4 (fun _ _ h => by cases h)).mono ?_
      rintro e w5 ⟨rfl, hk5, hb5⟩
      have H5 : Hid (Two Bo bo (stE es j) w4.heap.size w4.heap.size (stS L W 0) w5) := Lib.hid (Two.make HO4.out hb5 hk5)
      have HB5 := Lib.hid (HB4.out.trans (hb5.mono HB4.out.size))
      have HB24 := Lib.hid HB4.out.size
      have HZ5 := Lib.hid hb5.size
      clear hk5 hb5 HO4 HB4
      have HZ45 := Lib.hid (Nat.le_trans HZo.out HZ5.out)
      generalize w4.heap.size = B2 at *
      generalize hso : stE es j = so at *
      have HSO := Lib.hid hso
      clear hso
      go_wp2_with fail
      go_loopg [15, 16] K (fun f hv iv wr' => ∃ k : Nat, k + f = K ∧ iv = .int .i64 (k : Int) ∧ hv = .int .i64 (((stEv L W k).length : Nat) : Int) ∧ (stEv L W k).length ≤ j ∧ Two Bo bo so B2 B2 (stS L W k) wr' ∧ Below w.heap.size w wr' ∧ B2 ≤ wr'.heap.size ∧ Bo ≤ wr'.heap.size)
      case atStart => exact ⟨0, by omega, rfl, rfl, Nat.zero_le _, H5.out, HB5.out, HZ5.out, HZ45.out⟩
      case round =>
        obtain ⟨k, hkf, rfl, rfl, hle, h2, hbr, hzb2, hzbo⟩ := hrel
        have HTW := Lib.hid h2; have HBR := Lib.hid hbr; have HZA := Lib.hid hzb2; have HZB := Lib.hid hzbo
        clear h2 hbr hzb2 hzbo H5 HB5 HZ5
        have hKd := HKK.out
        have hlo : (so.txt.length : Int) ≤ (i : Int) := by omega
        have g1 : IntKind.i64.wrap (2 * (k : Int)) = 2 * (k : Int) := i64_in _ (by omega)
        have g2 : IntKind.i64.wrap (2 * (k : Int) + 1) = 2 * (k : Int) + 1 := i64_in _ (by omega)
        have g3 : IntKind.i64.wrap ((k : Int) + 1) = (k : Int) + 1 := i64_in _ (by omega)
        have hev := HES.out k (by omega)
        have HEV := Lib.hid hev
        have hEV2 : Hid ((stEv L W (k + 1)).length = (stEv L W k).length + if (stepS (stS L W k) (gi L (2 * k)) (gi L (2 * k + 1)) (li W k)).1 = 0 then 1 else 0) := Lib.hid (by
          show (stEv L W k ++ evOf _ _ _ _).length = _
          rw [List.length_append, evOf_len])
        have HSN : Hid (stS L W (k + 1) = (stepS (stS L W k) (gi L (2 * k)) (gi L (2 * k + 1)) (li W k)).2) := Lib.hid rfl
        have hsm := stS_small L W k
        have HFIN : Hid (k = K → (stEv L W k).length = j) := Lib.hid fun e => by
          subst e
          rw [HEQ.out] at hle ⊢
          omega
        clear hev
        by_cases hi2 : k < K ∧ (stEv L W k).length < j
        · obtain ⟨hk, hlj⟩ := hi2
          obtain ⟨f', rfl⟩ : ∃ f, gk = f + 1 := ⟨gk - 1, by omega⟩
          have d1 : (k : Int) < (m : Int) := by omega
          have d2 : 2 * (k : Int) + 1 < (n : Int) := by omega
          have d3 : (k : Int) < 70 := by omega
          have d4 : (((stEv L W k).length : Nat) : Int) < (j : Int) := by omega
          have d1' : k < m := by omega
          have d3' : k < 70 := by omega
          have HS := Lib.hid (HTW.out.step2 A A2 n c m c2 k L W (HT.out.below HBR.out (Nat.le_refl _)) hsm HZA.out (Nat.lt_of_lt_of_le HT.out.lt HB24.out) ((HL.out.below HBR.out).more HB24.out) ((HW.out.below HBR.out).more HB24.out) HW9.out d1' (by omega) d3')
          clear hKd hsm HEV
          generalize (stepS (stS L W k) (gi L (2 * k)) (gi L (2 * k + 1)) (li W k)).2 = s' at *
          generalize (stepS (stS L W k) (gi L (2 * k)) (gi L (2 * k + 1)) (li W k)).1 = e0 at *
          generalize (stEv L W k).length = had at *
          have g4 : IntKind.i64.wrap ((had : Int) + 1) = (had : Int) + 1 := i64_in _ (by omega)
          go_wp2_with fail
          refine HS.out.mono ?_
          rintro e w6 ⟨rfl, h6, hb6⟩
          have H6 := Lib.hid h6; have HB6 := Lib.hid (HBR.out.trans (hb6.mono HB24.out)); have HZ6 := Lib.hid (Nat.le_trans HZA.out hb6.size); have HY6 := Lib.hid (Nat.le_trans HZB.out hb6.size)
          clear h6 hb6 HS
          by_cases he : e0 = 0
          · subst he
            rw [if_pos rfl] at hEV2
            rw [show errV 0 = .nilIface from rfl]
            go_wp2_with fail
            go_roundg f'
            case measure => omega
            case rel => exact ⟨k + 1, by omega, by simp, by rw [hEV2.out]; simp, by rw [hEV2.out]; omega, by rw [HSN.out]; exact H6.out, HB6.out, HZ6.out, HY6.out⟩
          · rw [if_neg he] at hEV2
            rw [err_ne he]
            clear he
            go_wp2_with fail
            go_roundg f'
            case measure => omega
            case rel => exact ⟨k + 1, by omega, by simp, by rw [hEV2.out]; simp, by rw [hEV2.out]; omega, by rw [HSN.out]; exact H6.out, HB6.out, HZ6.out, HY6.out⟩
        · have hlj : (stEv L W k).length = j := by
            by_cases hkK : k = K
            · exact HFIN.out hkK
            · omega
          have hst : stS L W k = so := by
            rw [HEV.out.1, hlj, HSO.out]
          rw [hst] at HTW
          rw [hlj] at hle ⊢
          clear hst hsm hEV2 HSN HFIN HEV hle
          have HD := Lib.hid hKd
          have HI2 := Lib.hid hi2
          clear hi2
          have HLJ := Lib.hid hlj
          clear hlj
          by_cases c1 : (k : Int) < (m : Int)
          · by_cases c2' : 2 * (k : Int) + 1 < (n : Int)
            · by_cases c3 : (k : Int) < 70
              · have c4 : ¬ (j : Int) < (j : Int) := by omega
                have c1' : k < m := by omega
                have c3' : k < 70 := by omega
                clear hKd
                go_wp2_with fail
                refine HTW.out.now.mono ?_
                rintro e w' ⟨rfl, rfl⟩
                go_wp2_with fail
                refine HTW.out.now2.mono ?_
                rintro e w' ⟨rfl, rfl⟩
                go_wp2_with fail
                refine (HTW.out.text HZB.out).mono ?_
                rintro e w7 ⟨rfl, h7, hb7⟩
                have H7 := Lib.hid h7; have HB7 := Lib.hid (HBR.out.trans (hb7.mono HBo.out)); have HZ7 := Lib.hid (Nat.le_trans HZA.out hb7.size); have HY7 := Lib.hid (Nat.le_trans HZB.out hb7.size)
                clear h7 hb7
                go_wp2_with fail
                refine (H7.out.text2 HZ7.out).mono ?_
                rintro e w8 ⟨rfl, h8, hb8⟩
                have H8 := Lib.hid h8; have HB8 := Lib.hid (HB7.out.trans (hb8.mono HB24.out)); have HY8 := Lib.hid (Nat.le_trans HY7.out hb8.size)
                clear h8 hb8
                go_wp2_with fail
                refine (H8.out.text HY8.out).mono ?_
                rintro e w9 ⟨rfl, h9, hb9⟩
                have HB9 := Lib.hid (HB8.out.trans (hb9.mono HBo.out))
                clear h9 hb9
                go_wp2_with fail
                go_ret
                exact ⟨rfl, HB9.out⟩
              · have c1' : k < m := by omega
                have c3' : ¬ k < 70 := by omega
                clear hKd
                go_wp2_with fail
                refine HTW.out.now.mono ?_
                rintro e w' ⟨rfl, rfl⟩
                go_wp2_with fail
                refine HTW.out.now2.mono ?_
                rintro e w' ⟨rfl, rfl⟩
                go_wp2_with fail
                refine (HTW.out.text HZB.out).mono ?_
                rintro e w7 ⟨rfl, h7, hb7⟩
                have H7 := Lib.hid h7; have HB7 := Lib.hid (HBR.out.trans (hb7.mono HBo.out)); have HZ7 := Lib.hid (Nat.le_trans HZA.out hb7.size); have HY7 := Lib.hid (Nat.le_trans HZB.out hb7.size)
                clear h7 hb7
                go_wp2_with fail
                refine (H7.out.text2 HZ7.out).mono ?_
                rintro e w8 ⟨rfl, h8, hb8⟩
                have H8 := Lib.hid h8; have HB8 := Lib.hid (HB7.out.trans (hb8.mono HB24.out)); have HY8 := Lib.hid (Nat.le_trans HY7.out hb8.size)
                clear h8 hb8
                go_wp2_with fail
                refine (H8.out.text HY8.out).mono ?_
                rintro e w9 ⟨rfl, h9, hb9⟩
                have HB9 := Lib.hid (HB8.out.trans (hb9.mono HBo.out))
                clear h9 hb9
                go_wp2_with fail
                go_ret
                exact ⟨rfl, HB9.out⟩
            · have c1' : k < m := by omega
              clear hKd
              go_wp2_with fail
              refine HTW.out.now.mono ?_
              rintro e w' ⟨rfl, rfl⟩
              go_wp2_with fail
              refine HTW.out.now2.mono ?_
              rintro e w' ⟨rfl, rfl⟩
              go_wp2_with fail
              refine (HTW.out.text HZB.out).mono ?_
              rintro e w7 ⟨rfl, h7, hb7⟩
              have H7 := Lib.hid h7; have HB7 := Lib.hid (HBR.out.trans (hb7.mono HBo.out)); have HZ7 := Lib.hid (Nat.le_trans HZA.out hb7.size); have HY7 := Lib.hid (Nat.le_trans HZB.out hb7.size)
              clear h7 hb7
              go_wp2_with fail
              refine (H7.out.text2 HZ7.out).mono ?_
              rintro e w8 ⟨rfl, h8, hb8⟩
              have H8 := Lib.hid h8; have HB8 := Lib.hid (HB7.out.trans (hb8.mono HB24.out)); have HY8 := Lib.hid (Nat.le_trans HY7.out hb8.size)
              clear h8 hb8
              go_wp2_with fail
              refine (H8.out.text HY8.out).mono ?_
              rintro e w9 ⟨rfl, h9, hb9⟩
              have HB9 := Lib.hid (HB8.out.trans (hb9.mono HBo.out))
              clear h9 hb9
              go_wp2_with fail
              go_ret
              exact ⟨rfl, HB9.out⟩
          · have c1' : ¬ k < m := by omega
            clear hKd
            go_wp2_with fail
            refine HTW.out.now.mono ?_
            rintro e w' ⟨rfl, rfl⟩
            go_wp2_with fail
            refine HTW.out.now2.mono ?_
            rintro e w' ⟨rfl, rfl⟩
            go_wp2_with fail
            refine (HTW.out.text HZB.out).mono ?_
            rintro e w7 ⟨rfl, h7, hb7⟩
            have H7 := Lib.hid h7; have HB7 := Lib.hid (HBR.out.trans (hb7.mono HBo.out)); have HZ7 := Lib.hid (Nat.le_trans HZA.out hb7.size); have HY7 := Lib.hid (Nat.le_trans HZB.out hb7.size)
            clear h7 hb7
            go_wp2_with fail
            refine (H7.out.text2 HZ7.out).mono ?_
            rintro e w8 ⟨rfl, h8, hb8⟩
            have H8 := Lib.hid h8; have HB8 := Lib.hid (HB7.out.trans (hb8.mono HB24.out)); have HY8 := Lib.hid (Nat.le_trans HY7.out hb8.size)
            clear h8 hb8
            go_wp2_with fail
            refine (H8.out.text HY8.out).mono ?_
            rintro e w9 ⟨rfl, h9, hb9⟩
            have HB9 := Lib.hid (HB8.out.trans (hb9.mono HBo.out))
            clear h9 hb9
            go_wp2_with fail
            go_ret
            exact ⟨rfl, HB9.out⟩
end Go.Proofs.YteoofkinmilckaaDoor
