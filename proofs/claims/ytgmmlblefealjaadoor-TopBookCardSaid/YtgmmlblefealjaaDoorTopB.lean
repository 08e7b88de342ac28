/- The law TopBook: its walk. Condition: internal/strconv.uint64pow10 reads as the library's text lays it; internal/bytealg.MaxLen holds an integer. -/
import Derived.Test.YtgmmlblefealjaaDoorBookT
import Derived.Test.YtgmmlblefealjaaDoorEdF
import Derived.Test.YtgmmlblefealjaaDoorTopA
namespace Go.Proofs.YtgmmlblefealjaaDoor
open Go.RowKit IntWalk
attribute [local go_sem] byte_at str_app
attribute [local go_sem ↓] Go.wp_at_zero Go.wp_at_succ

/-- How many steps are done. -/
def topK (n m : Nat) : Nat := min 50 (min m (n / 2))
theorem putN_lenT {now s : List UInt8} {k : Nat} (hk : k ≤ now.length) : (putN now k s).length = now.length + s.length := by
  simp only [putN, List.length_append, List.length_take, List.length_drop]; omega
theorem putN_midT {now s : List UInt8} {k : Nat} (hk : k ≤ now.length) : ((putN now k s).drop k).take s.length = s := by
  have h : (now.take k).length = k := by rw [List.length_take]; omega
  unfold putN
  rw [List.append_assoc, List.drop_append_of_le_length (by omega), List.drop_of_length_le (by omega), List.nil_append, List.take_append_of_le_length (Nat.le_refl _), List.take_length]
/-- What a word that could be put in says. -/
theorem put_ok {s : BS} {at_ : Int} {x : List UInt8} (h : (putS s at_ x).1 = 0) : ∃ k : Nat, at_ = k ∧ k ≤ s.now.length ∧ x ≠ [] ∧ s.now.length + x.length ≤ 24 ∧ (putS s at_ x).2.now = putN s.now k x := by
  have h0 : putE s.now s.many at_ x = 0 := h
  have hn : (putS s at_ x).2.now = putN s.now at_.toNat x := by unfold putS; simp only [if_pos h0]
  unfold putE at h0
  by_cases h1 : 0 ≤ at_ ∧ at_ ≤ s.now.length
  rotate_left
  · rw [if_pos h1] at h0; cases h0
  rw [if_neg (fun h => h h1)] at h0
  by_cases h2 : wordE x = 0
  rotate_left
  · rw [if_pos h2] at h0; exact absurd h0 h2
  rw [if_neg (fun h => h h2)] at h0
  by_cases h3 : 24 < s.now.length + x.length ∨ s.many = 60
  · rw [if_pos h3] at h0; cases h0
  refine ⟨at_.toNat, by omega, by omega, fun e => ?_, by omega, hn⟩
  subst e
  have := wordE_len h2
  simp at this
/-- What is found, and how far. -/
theorem put_found {now x : List UInt8} {k : Nat} (hk : k ≤ now.length) (hx : x ≠ []) (h24 : now.length + x.length ≤ 24) :
    findE (putN now k x) x = 0 ∧ (∀ j, j < (occ x (putN now k x)).length → 0 ≤ gi ((occ x (putN now k x)).map fun p : Nat => (p : Int)) j ∧ gi ((occ x (putN now k x)).map fun p : Nat => (p : Int)) j ≤ 24) ∧
    (k : Int) ∈ (occ x (putN now k x)).map (fun p : Nat => (p : Int)) ∧ ed now (putN now k x) = x.length ∧ (occ x (putN now k x)).length ≤ 24 := by
  have hl := putN_lenT (s := x) hk
  have hx1 : 1 ≤ x.length := by cases x with
    | nil => exact absurd rfl hx
    | cons => simp
  refine ⟨?_, fun j hj => ?_, ?_, ed_put now x k hk, ?_⟩
  · unfold findE; rw [if_neg (by omega), if_neg hx]
  · have hm := gi_mem (l := (occ x (putN now k x)).map fun p : Nat => (p : Int)) (k := j) (by rw [List.length_map]; exact hj)
    obtain ⟨p, hp, e⟩ := List.mem_map.1 hm
    rw [← e]
    have hp := List.mem_range.1 (List.mem_filter.1 hp).1
    omega
  · refine List.mem_map.2 ⟨k, List.mem_filter.2 ⟨List.mem_range.2 (by omega), ?_⟩, rfl⟩
    unfold stands
    rw [decide_eq_true_iff, List.length_drop]
    exact ⟨by omega, putN_midT hk⟩
  · have := occ_len x (putN now k x)
    omega
theorem top_a : (putS fact0 0 [97]).1 = 0 := by decide
theorem top_now : (putS fact0 0 [97]).2.now = [97] := by
  unfold putS; rw [if_pos (by decide)]; decide

set_option maxRecDepth 100000 in
set_option maxHeartbeats 20000000 in
theorem topBook_walk (w : World) (A A2 : Option Addr) (n c m c2 : Nat) (L : List Int) (W : List (List UInt8)) (at_ : Int) (x : List UInt8) (ht : TG w) (hm : ML w)
    (hL : Ints w w.heap.size A n L) (hW : Strs w w.heap.size A2 m W) (hW9 : ∀ x ∈ W, x.length ≤ 9223372036854775807) (hx9 : x.length ≤ 9223372036854775807) :
    Calls Tryd.prog 4 #[.slice A n c, .slice A2 m c2, .int .i64 at_, S x] w fun e w' => e = .returned (.bool true) ∧ Below w.heap.size w w' := by
  have HL := Lib.hid hL; have HW := Lib.hid hW; have HW9 := Lib.hid hW9; have HT := Lib.hid ht; have HM := Lib.hid hm
  have HK : Hid (topK n m = min 50 (min m (n / 2))) := Lib.hid rfl
  generalize topK n m = K at *
  clear hL hW hW9 ht hm
  go_enter Tryd.func4, Tryd.ntmps4
  go_wp2_with fail
  refine (new_any nF w (fun _ _ h => by cases h)).mono ?_
  rintro e w1 ⟨rfl, hk1, hb1⟩
  have HK1 := Lib.hid (show Bks nF w.heap.size w.heap.size fact0 w1 from hk1); have HB1 := Lib.hid hb1
  clear hk1 hb1
  go_wp2_with fail
  refine (put_s nF w.heap.size w.heap.size fact0 [97] 0 w1 HK1.out (HT.out.below HB1.out (Nat.le_refl _)) ⟨by decide, by decide, by decide⟩ (by decide) HB1.out.size HT.out.lt).mono ?_
  rintro e w2 ⟨rfl, hb2, hk2⟩
  have HB2 := Lib.hid (HB1.out.trans hb2)
  have HK2 := Lib.hid hk2
  clear hb2 hk2 HK1 HB1
  rw [top_a, show errV 0 = .nilIface from rfl]
  go_wp2_with fail
  refine (now_any _ _ _ _ _ _ _ HK2.out).mono ?_
  rintro e w' ⟨rfl, rfl⟩
  rw [top_now]
  go_wp2_with fail
  have HT2 := Lib.hid (HT.out.below HB2.out (Nat.le_refl _))
  have HLT2 := Lib.hid HT2.out.lt
  refine (new_any nF w2 (fun _ _ h => by cases h)).mono ?_
  rintro e w3 ⟨rfl, hk3, hb3⟩
  have HK3 := Lib.hid hk3; have HBB := Lib.hid hb3
  have HZ := Lib.hid HB2.out.size
  have HL2 := Lib.hid ((HL.out.below HB2.out).more HB2.out.size)
  have HW2 := Lib.hid ((HW.out.below HB2.out).more HB2.out.size)
  have HM2 := Lib.hid (HM.out.below HB2.out HM.out.lt)
  clear hk3 hb3 HK2 HL HW
  go_wp2_with fail
  go_loopg [10] K (fun f iv wr => ∃ k : Nat, k + f = K ∧ iv = .int .i64 (k : Int) ∧ Hid (Bks nF w2.heap.size w2.heap.size (stS L W k) wr) ∧ Hid (Below w2.heap.size w2 wr))
  case atStart => exact ⟨0, by omega, rfl, HK3, HBB⟩
  case round =>
    obtain ⟨k, hkf, rfl, HBK, HB⟩ := hrel
    have hKd := HK.out
    clear HK3 HBB
    have g1 : IntKind.i64.wrap (2 * (k : Int)) = 2 * (k : Int) := i64_in _ (by omega)
    have g2 : IntKind.i64.wrap (2 * (k : Int) + 1) = 2 * (k : Int) + 1 := i64_in _ (by omega)
    have g3 : IntKind.i64.wrap ((k : Int) + 1) = (k : Int) + 1 := i64_in _ (by omega)
    by_cases hi : k < K
    · obtain ⟨f', rfl⟩ : ∃ f, gk = f + 1 := ⟨gk - 1, by omega⟩
      have d1 : (k : Int) < (m : Int) := by omega
      have d2 : 2 * (k : Int) + 1 < (n : Int) := by omega
      have d3 : (k : Int) < 50 := by omega
      have d1' : k < m := by omega
      have d3' : k < 50 := by omega
      have f2 : (0 : Int) ≤ 2 * (k : Int) := by omega
      have f3 : (2 : Int) * (k : Int) < (n : Int) := by omega
      have f4 : (2 * (k : Int)).toNat = 2 * k := by omega
      have f6 : (0 : Int) ≤ 2 * (k : Int) + 1 := by omega
      have f8 : (2 * (k : Int) + 1).toNat = 2 * k + 1 := by omega
      obtain ⟨bl, ol, eA, hbl, cl0⟩ := (HL2.out.below HB.out).at_ (k := 2 * k) (by omega)
      obtain ⟨bl', ol', e1, _, cl1⟩ := (HL2.out.below HB.out).at_ (k := 2 * k + 1) (by omega)
      subst eA
      injection e1 with e1
      injection e1 with e2 e3 _
      subst e2 e3
      obtain ⟨bw, ow, eW, hbw, cw⟩ := (HW2.out.below HB.out).at_ d1'
      subst eW
      have hy9 : (li W k).length ≤ 9223372036854775807 := HW9.out _ (by rw [li_eq (by have := HW2.out.1; omega)]; exact List.getElem_mem _)
      have HSM := Lib.hid (stS_small L W k)
      have HST : Hid (stS L W (k + 1) = (stepS (stS L W k) (gi L (2 * k)) (gi L (2 * k + 1)) (li W k)).2) := Lib.hid rfl
      generalize gi L (2 * k) = p at *
      generalize gi L (2 * k + 1) = q at *
      generalize li W k = y at *
      generalize stS L W k = st at *
      generalize hq : stS L W (k + 1) = st' at *
      have HQ := Lib.hid hq
      clear hKd hq
      by_cases hy : y = []
      · subst hy
        have HE := Lib.hid (HST.out.trans (congrArg Prod.snd (show stepS st p q [] = cutS st p q from if_pos rfl)))
        clear HST
        go_wp2_with fail
        go_still_tail 12, (by kernel_rfl)
        change wpList _ _ _ _ _ wr.drew
        have HH2 : Hid (Bks nF w2.heap.size w2.heap.size st wr.drew) := HBK
        have HB2' : Hid (Below w2.heap.size w2 wr.drew) := Lib.hid (below_drewN HB.out 1)
        have HT3 := Lib.hid (HT2.out.below HB2'.out (Nat.le_refl _))
        clear HBK HB f2 f3 f4 f6 f8 cl0 cl1 cw
        generalize wr.drew = wd at *
        go_wp2_with fail
        refine (cut_s nF w2.heap.size w2.heap.size st p q _ HH2.out HT3.out HSM.out HLT2.out).mono ?_
        rintro e w4 ⟨rfl, hb4, hk4⟩
        have HB4 := Lib.hid (HB2'.out.trans hb4)
        have HK4 : Hid (Bks nF w2.heap.size w2.heap.size st' w4) := Lib.hid (by rw [HE.out]; exact hk4)
        clear hb4 hk4
        go_wp2_with fail
        go_roundg f'
        case measure => omega
        case rel => exact ⟨k + 1, by omega, by simp, Lib.hid (by rw [HQ.out]; exact HK4.out), HB4⟩
      · have HE := Lib.hid (HST.out.trans (congrArg Prod.snd (show stepS st p q y = putS st p y from if_neg hy)))
        have hne : y.isEmpty = false := by cases y with
          | nil => exact absurd rfl hy
          | cons => rfl
        clear HST hy
        go_wp2_with fail
        go_still_tail 10, (by kernel_rfl)
        change wpList _ _ _ _ _ wr.drew
        have HH2 : Hid (Bks nF w2.heap.size w2.heap.size st wr.drew) := HBK
        have HB2' : Hid (Below w2.heap.size w2 wr.drew) := Lib.hid (below_drewN HB.out 1)
        have HT3 := Lib.hid (HT2.out.below HB2'.out (Nat.le_refl _))
        clear HBK HB f2 f3 f4 f6 f8 cl0 cl1 cw
        generalize wr.drew = wd at *
        go_wp2_with fail
        refine (put_s nF w2.heap.size w2.heap.size st y p _ HH2.out HT3.out HSM.out hy9 HB2'.out.size HLT2.out).mono ?_
        rintro e w4 ⟨rfl, hb4, hk4⟩
        have HB4 := Lib.hid (HB2'.out.trans hb4)
        have HK4 : Hid (Bks nF w2.heap.size w2.heap.size st' w4) := Lib.hid (by rw [HE.out]; exact hk4)
        clear hb4 hk4
        go_wp2_with fail
        go_roundg f'
        case measure => omega
        case rel => exact ⟨k + 1, by omega, by simp, Lib.hid (by rw [HQ.out]; exact HK4.out), HB4⟩
    · obtain rfl : k = K := by omega
      have HLG := Lib.hid (stS_logs L W k)
      have hex : (¬ k < m) ∨ (k < m ∧ ¬ 2 * k + 1 < n) ∨ (k < m ∧ 2 * k + 1 < n ∧ ¬ k < 50) := by omega
      generalize stEv L W k = es at *
      generalize stS L W k = st at *
      -- what comes behind the loop
      have HTr := Lib.hid (HT2.out.below HB.out (Nat.le_refl _))
      have HMr := Lib.hid (HM2.out.below HB.out HM2.out.lt)
      have HTXT := Lib.hid (fun W' (h : Below w2.heap.size w2 W') (hk : Bks nF w2.heap.size w2.heap.size st W') => text_all nF w2.heap.size w2.heap.size st.now st.txt st.many W' hk h.size)
      have HOP : Hid (∀ W', TG W' → ML W' → Calls Tryd.prog 14 #[S st.txt] W' fun e w' => (∃ b, e = .returned (.tuple #[.pointer (some ⟨b, 0, none⟩), .int .i64 (es.length : Int), .nilIface]) ∧ Bks nF W'.heap.size b st w') ∧ Below W'.heap.size W' w') := Lib.hid fun W' hT hM => by
        obtain ⟨x1, x2, x3, x4⟩ := HLG.out.txt
        have := open_any es st [] W' HLG.out (by simp) (by rw [List.append_nil]; have := txtE_len x4; have := x3.2.1; omega) hT hM
        rwa [List.append_nil, ← x1] at this
      have HSM := Lib.hid (HLG.out.txt.2.2.1)
      clear HLG hKd
      have h24 : ¬ (24 : Int) < (st.now.length : Int) := by have := HSM.out.1; omega
      rcases hex with c1 | ⟨c1, c2'⟩ | ⟨c1, c2', c3'⟩
      · have c4 : ¬ (k : Int) < (m : Int) := by omega
        go_wp2_with fail
        refine (now_any _ _ _ _ _ _ _ HBK.out).mono ?_
        rintro e w' ⟨rfl, rfl⟩
        go_wp2_with fail
        refine (HTXT.out _ HB.out HBK.out).mono ?_
        rintro e w4 ⟨rfl, hk4, hb4⟩
        have HK4 := Lib.hid hk4
        have HB4 := Lib.hid (HB.out.trans hb4)
        have HT4 := Lib.hid (HT2.out.below HB4.out (Nat.le_refl _))
        have HM4 := Lib.hid (HM2.out.below HB4.out HM2.out.lt)
        clear hk4 hb4 HBK HB HTr HMr HTXT
        go_wp2_with fail
        refine (HOP.out _ HT4.out HM4.out).mono ?_
        rintro e w5 ⟨⟨bo, rfl, ho⟩, hb5⟩
        have HO5 := Lib.hid ho
        have HK5 := Lib.hid (HK4.out.below hb5)
        have HB5 := Lib.hid (HB4.out.trans (hb5.mono HB4.out.size))
        have HT5 := Lib.hid (HT2.out.below HB5.out (Nat.le_refl _))
        clear ho hb5 HK4 HB4 HT4 HM4 HOP
        go_wp2_with fail
        refine (now_any _ _ _ _ _ _ _ HO5.out).mono ?_
        rintro e w' ⟨rfl, rfl⟩
        go_wp2_with fail
        refine (put_s nF w2.heap.size w2.heap.size st x at_ w5 HK5.out HT5.out HSM.out hx9 HB5.out.size HLT2.out).mono ?_
        rintro e w6 ⟨rfl, hb6, hk6⟩
        have HB6 := Lib.hid (HB5.out.trans hb6)
        have HK6 := Lib.hid hk6
        clear hb6 hk6 HK5 HB5 HT5
        have HBW := Lib.hid ((HB2.out.trans (HB6.out.mono HZ.out)))
        by_cases he : (putS st at_ x).1 = 0
        · obtain ⟨kp, rfl, hkp, hx0, hx24, hnow⟩ := put_ok he
          obtain ⟨f1, f2, f3, f4, f5⟩ := put_found (now := st.now) (x := x) hkp hx0 hx24
          have hnl := putN_lenT (s := x) hkp
          have hHIT := Lib.hid f3
          have HALL := Lib.hid f2
          have HED := Lib.hid f4
          have hmx : (x.length : Int) ≤ 24 := by omega
          have HST : Hid (Bks nF w2.heap.size w2.heap.size (putS st (kp : Int) x).2 w6) := HK6
          rw [he, show errV 0 = .nilIface from rfl]
          clear he HK6 f2 f3 f4
          generalize (putS st (kp : Int) x).2 = s9 at *
          generalize putN st.now kp x = nw at *
          generalize hoc : occ x nw = oc at *
          have HOC := Lib.hid hoc
          have HNW := Lib.hid hnow
          clear hoc hnow
          go_wp2_with fail
          refine (now_any _ _ _ _ _ _ _ HST.out).mono ?_
          rintro e w' ⟨rfl, rfl⟩
          rw [HNW.out]
          go_wp2_with fail
          refine (find_any nw x w6 (by omega) hx9).mono ?_
          rintro e w7 ⟨⟨A7, n7, c7, rfl, hI7⟩, hb7⟩
          rw [HOC.out] at hI7
          have HI7 := Lib.hid (hI7 f1)
          have hn7 := HI7.out.1
          rw [List.length_map] at hn7
          have HK7 := Lib.hid (HST.out.below hb7)
          have HBW7 := Lib.hid (HBW.out.trans (hb7.mono HBW.out.size))
          rw [f1, show errV 0 = .nilIface from rfl]
          clear hI7 hb7 HST HBW f1
          go_wp2_with fail
          refine (now_any _ _ _ _ _ _ _ HK7.out).mono ?_
          rintro e w' ⟨rfl, rfl⟩
          rw [HNW.out]
          go_wp2_with fail
          refine (far_any st.now nw w7 HSM.out.1 (by omega)).mono ?_
          rintro e w8 ⟨rfl, hb8⟩
          have HI8 := Lib.hid (HI7.out.below hb8)
          have HBW8 := Lib.hid (HBW7.out.trans (hb8.mono HBW7.out.size))
          rw [HED.out]
          clear hb8 HI7 HK7 HBW7
          go_wp2_with fail
          refine (all2_any A7 n7 c7 w7.heap.size _ 0 24 w8 HI8.out (fun j hj => HALL.out j (by omega)) (by omega)).mono ?_
          rintro e w' ⟨rfl, rfl⟩
          go_wp2_with fail
          refine (has3_any A7 n7 c7 w7.heap.size _ (kp : Int) w8 HI8.out (by omega)).mono ?_
          rintro e w' ⟨rfl, rfl⟩
          rw [decide_eq_true hHIT.out]
          go_wp2_with fail
          go_ret
          exact ⟨rfl, HBW8.out⟩
        · have h9 : (putS st at_ x).2 = st := by
            have h0 : ¬ putE st.now st.many at_ x = 0 := he
            unfold putS; simp only [if_neg h0]
          rw [h9] at HK6
          rw [err_ne he]
          clear h9
          generalize (putS st at_ x).1 = e9 at *
          go_wp2_with fail
          refine (now_any _ _ _ _ _ _ _ HK6.out).mono ?_
          rintro e w' ⟨rfl, rfl⟩
          go_wp2_with fail
          go_ret
          exact ⟨ret_bool (by simp), HBW.out⟩
      · have c4 : (k : Int) < (m : Int) := by omega
        have c5 : ¬ 2 * (k : Int) + 1 < (n : Int) := by omega
        go_wp2_with fail
        refine (now_any _ _ _ _ _ _ _ HBK.out).mono ?_
        rintro e w' ⟨rfl, rfl⟩
        go_wp2_with fail
        refine (HTXT.out _ HB.out HBK.out).mono ?_
        rintro e w4 ⟨rfl, hk4, hb4⟩
        have HK4 := Lib.hid hk4
        have HB4 := Lib.hid (HB.out.trans hb4)
        have HT4 := Lib.hid (HT2.out.below HB4.out (Nat.le_refl _))
        have HM4 := Lib.hid (HM2.out.below HB4.out HM2.out.lt)
        clear hk4 hb4 HBK HB HTr HMr HTXT
        go_wp2_with fail
        refine (HOP.out _ HT4.out HM4.out).mono ?_
        rintro e w5 ⟨⟨bo, rfl, ho⟩, hb5⟩
        have HO5 := Lib.hid ho
        have HK5 := Lib.hid (HK4.out.below hb5)
        have HB5 := Lib.hid (HB4.out.trans (hb5.mono HB4.out.size))
        have HT5 := Lib.hid (HT2.out.below HB5.out (Nat.le_refl _))
        clear ho hb5 HK4 HB4 HT4 HM4 HOP
        go_wp2_with fail
        refine (now_any _ _ _ _ _ _ _ HO5.out).mono ?_
        rintro e w' ⟨rfl, rfl⟩
        go_wp2_with fail
        refine (put_s nF w2.heap.size w2.heap.size st x at_ w5 HK5.out HT5.out HSM.out hx9 HB5.out.size HLT2.out).mono ?_
        rintro e w6 ⟨rfl, hb6, hk6⟩
        have HB6 := Lib.hid (HB5.out.trans hb6)
        have HK6 := Lib.hid hk6
        clear hb6 hk6 HK5 HB5 HT5
        have HBW := Lib.hid ((HB2.out.trans (HB6.out.mono HZ.out)))
        by_cases he : (putS st at_ x).1 = 0
        · obtain ⟨kp, rfl, hkp, hx0, hx24, hnow⟩ := put_ok he
          obtain ⟨f1, f2, f3, f4, f5⟩ := put_found (now := st.now) (x := x) hkp hx0 hx24
          have hnl := putN_lenT (s := x) hkp
          have hHIT := Lib.hid f3
          have HALL := Lib.hid f2
          have HED := Lib.hid f4
          have hmx : (x.length : Int) ≤ 24 := by omega
          have HST : Hid (Bks nF w2.heap.size w2.heap.size (putS st (kp : Int) x).2 w6) := HK6
          rw [he, show errV 0 = .nilIface from rfl]
          clear he HK6 f2 f3 f4
          generalize (putS st (kp : Int) x).2 = s9 at *
          generalize putN st.now kp x = nw at *
          generalize hoc : occ x nw = oc at *
          have HOC := Lib.hid hoc
          have HNW := Lib.hid hnow
          clear hoc hnow
          go_wp2_with fail
          refine (now_any _ _ _ _ _ _ _ HST.out).mono ?_
          rintro e w' ⟨rfl, rfl⟩
          rw [HNW.out]
          go_wp2_with fail
          refine (find_any nw x w6 (by omega) hx9).mono ?_
          rintro e w7 ⟨⟨A7, n7, c7, rfl, hI7⟩, hb7⟩
          rw [HOC.out] at hI7
          have HI7 := Lib.hid (hI7 f1)
          have hn7 := HI7.out.1
          rw [List.length_map] at hn7
          have HK7 := Lib.hid (HST.out.below hb7)
          have HBW7 := Lib.hid (HBW.out.trans (hb7.mono HBW.out.size))
          rw [f1, show errV 0 = .nilIface from rfl]
          clear hI7 hb7 HST HBW f1
          go_wp2_with fail
          refine (now_any _ _ _ _ _ _ _ HK7.out).mono ?_
          rintro e w' ⟨rfl, rfl⟩
          rw [HNW.out]
          go_wp2_with fail
          refine (far_any st.now nw w7 HSM.out.1 (by omega)).mono ?_
          rintro e w8 ⟨rfl, hb8⟩
          have HI8 := Lib.hid (HI7.out.below hb8)
          have HBW8 := Lib.hid (HBW7.out.trans (hb8.mono HBW7.out.size))
          rw [HED.out]
          clear hb8 HI7 HK7 HBW7
          go_wp2_with fail
          refine (all2_any A7 n7 c7 w7.heap.size _ 0 24 w8 HI8.out (fun j hj => HALL.out j (by omega)) (by omega)).mono ?_
          rintro e w' ⟨rfl, rfl⟩
          go_wp2_with fail
          refine (has3_any A7 n7 c7 w7.heap.size _ (kp : Int) w8 HI8.out (by omega)).mono ?_
          rintro e w' ⟨rfl, rfl⟩
          rw [decide_eq_true hHIT.out]
          go_wp2_with fail
          go_ret
          exact ⟨rfl, HBW8.out⟩
        · have h9 : (putS st at_ x).2 = st := by
            have h0 : ¬ putE st.now st.many at_ x = 0 := he
            unfold putS; simp only [if_neg h0]
          rw [h9] at HK6
          rw [err_ne he]
          clear h9
          generalize (putS st at_ x).1 = e9 at *
          go_wp2_with fail
          refine (now_any _ _ _ _ _ _ _ HK6.out).mono ?_
          rintro e w' ⟨rfl, rfl⟩
          go_wp2_with fail
          go_ret
          exact ⟨ret_bool (by simp), HBW.out⟩
      · have c4 : (k : Int) < (m : Int) := by omega
        have c5 : 2 * (k : Int) + 1 < (n : Int) := by omega
        have c6 : ¬ (k : Int) < 50 := by omega
        go_wp2_with fail
        refine (now_any _ _ _ _ _ _ _ HBK.out).mono ?_
        rintro e w' ⟨rfl, rfl⟩
        go_wp2_with fail
        refine (HTXT.out _ HB.out HBK.out).mono ?_
        rintro e w4 ⟨rfl, hk4, hb4⟩
        have HK4 := Lib.hid hk4
        have HB4 := Lib.hid (HB.out.trans hb4)
        have HT4 := Lib.hid (HT2.out.below HB4.out (Nat.le_refl _))
        have HM4 := Lib.hid (HM2.out.below HB4.out HM2.out.lt)
        clear hk4 hb4 HBK HB HTr HMr HTXT
        go_wp2_with fail
        refine (HOP.out _ HT4.out HM4.out).mono ?_
        rintro e w5 ⟨⟨bo, rfl, ho⟩, hb5⟩
        have HO5 := Lib.hid ho
        have HK5 := Lib.hid (HK4.out.below hb5)
        have HB5 := Lib.hid (HB4.out.trans (hb5.mono HB4.out.size))
        have HT5 := Lib.hid (HT2.out.below HB5.out (Nat.le_refl _))
        clear ho hb5 HK4 HB4 HT4 HM4 HOP
        go_wp2_with fail
        refine (now_any _ _ _ _ _ _ _ HO5.out).mono ?_
        rintro e w' ⟨rfl, rfl⟩
        go_wp2_with fail
        refine (put_s nF w2.heap.size w2.heap.size st x at_ w5 HK5.out HT5.out HSM.out hx9 HB5.out.size HLT2.out).mono ?_
        rintro e w6 ⟨rfl, hb6, hk6⟩
        have HB6 := Lib.hid (HB5.out.trans hb6)
        have HK6 := Lib.hid hk6
        clear hb6 hk6 HK5 HB5 HT5
        have HBW := Lib.hid ((HB2.out.trans (HB6.out.mono HZ.out)))
        by_cases he : (putS st at_ x).1 = 0
        · obtain ⟨kp, rfl, hkp, hx0, hx24, hnow⟩ := put_ok he
          obtain ⟨f1, f2, f3, f4, f5⟩ := put_found (now := st.now) (x := x) hkp hx0 hx24
          have hnl := putN_lenT (s := x) hkp
          have hHIT := Lib.hid f3
          have HALL := Lib.hid f2
          have HED := Lib.hid f4
          have hmx : (x.length : Int) ≤ 24 := by omega
          have HST : Hid (Bks nF w2.heap.size w2.heap.size (putS st (kp : Int) x).2 w6) := HK6
          rw [he, show errV 0 = .nilIface from rfl]
          clear he HK6 f2 f3 f4
          generalize (putS st (kp : Int) x).2 = s9 at *
          generalize putN st.now kp x = nw at *
          generalize hoc : occ x nw = oc at *
          have HOC := Lib.hid hoc
          have HNW := Lib.hid hnow
          clear hoc hnow
          go_wp2_with fail
          refine (now_any _ _ _ _ _ _ _ HST.out).mono ?_
          rintro e w' ⟨rfl, rfl⟩
          rw [HNW.out]
          go_wp2_with fail
          refine (find_any nw x w6 (by omega) hx9).mono ?_
          rintro e w7 ⟨⟨A7, n7, c7, rfl, hI7⟩, hb7⟩
          rw [HOC.out] at hI7
          have HI7 := Lib.hid (hI7 f1)
          have hn7 := HI7.out.1
          rw [List.length_map] at hn7
          have HK7 := Lib.hid (HST.out.below hb7)
          have HBW7 := Lib.hid (HBW.out.trans (hb7.mono HBW.out.size))
          rw [f1, show errV 0 = .nilIface from rfl]
          clear hI7 hb7 HST HBW f1
          go_wp2_with fail
          refine (now_any _ _ _ _ _ _ _ HK7.out).mono ?_
          rintro e w' ⟨rfl, rfl⟩
          rw [HNW.out]
          go_wp2_with fail
          refine (far_any st.now nw w7 HSM.out.1 (by omega)).mono ?_
          rintro e w8 ⟨rfl, hb8⟩
          have HI8 := Lib.hid (HI7.out.below hb8)
          have HBW8 := Lib.hid (HBW7.out.trans (hb8.mono HBW7.out.size))
          rw [HED.out]
          clear hb8 HI7 HK7 HBW7
          go_wp2_with fail
          refine (all2_any A7 n7 c7 w7.heap.size _ 0 24 w8 HI8.out (fun j hj => HALL.out j (by omega)) (by omega)).mono ?_
          rintro e w' ⟨rfl, rfl⟩
          go_wp2_with fail
          refine (has3_any A7 n7 c7 w7.heap.size _ (kp : Int) w8 HI8.out (by omega)).mono ?_
          rintro e w' ⟨rfl, rfl⟩
          rw [decide_eq_true hHIT.out]
          go_wp2_with fail
          go_ret
          exact ⟨rfl, HBW8.out⟩
        · have h9 : (putS st at_ x).2 = st := by
            have h0 : ¬ putE st.now st.many at_ x = 0 := he
            unfold putS; simp only [if_neg h0]
          rw [h9] at HK6
          rw [err_ne he]
          clear h9
          generalize (putS st at_ x).1 = e9 at *
          go_wp2_with fail
          refine (now_any _ _ _ _ _ _ _ HK6.out).mono ?_
          rintro e w' ⟨rfl, rfl⟩
          go_wp2_with fail
          go_ret
          exact ⟨ret_bool (by simp), HBW.out⟩
end Go.Proofs.YtgmmlblefealjaaDoor
