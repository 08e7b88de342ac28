/- The law TopDesk: its walk. Condition: as of Run. -/
import Derived.Test.YteoofkinmilckaaGreatDoorDeskI
namespace Go.Proofs.YteoofkinmilckaaGreatDoor
open Go.RowKit Go.Shelf IntWalk
attribute [local go_sem] byte_at str_app
attribute [local go_sem ↓] Go.wp_at_zero Go.wp_at_succ

set_option maxRecDepth 100000 in
set_option maxHeartbeats 2000000 in
theorem last_top (O L : List UInt8) (h : Last O L) (w : World) (hl : (O ++ L).length ≤ 1000000) :
    Calls Tryz.prog 20 #[S (O ++ L)] w fun e w' => e = .returned (S L) ∧ w = w' := by
  obtain ⟨p, rfl, hp, hO⟩ := h
  have hXl : (O ++ (p ++ [10])).length = O.length + p.length + 1 := by simp; omega
  have hdr : (O ++ (p ++ [10])).drop O.length = p ++ [10] := List.drop_left
  have HMID : Hid (∀ r, r < p.length → bu (O ++ (p ++ [10])) (O.length + r) ≠ 10) := Lib.hid fun r hr => by
    rw [← bu_drop, hdr, bu_left hr]
    exact hp _ (bu_mem hr)
  have HEND : Hid (∀ q, O.length = q + 1 → bu (O ++ (p ++ [10])) q = 10) := Lib.hid fun q hq => by
    rcases hO with h | h
    · rw [h] at hq; cases hq
    · rw [bu_left (by omega)]; rw [hq] at h; simpa using h
  have hx := str_from (O ++ (p ++ [10])) O.length
  rw [hdr] at hx
  generalize p ++ [10] = L at *
  generalize hX : O ++ L = X at *
  clear hX hdr hp hO
  obtain ⟨st, hst⟩ : ∃ st, st = O.length + p.length := ⟨_, rfl⟩
  have k1 : IntKind.i64.wrap ((X.length : Int) - 1) = (st : Int) := by rw [i64_in _ (by omega)]; omega
  have HXl := Lib.hid hXl
  have HST := Lib.hid hst
  clear hXl hst
  go_enter Tryz.func20, Tryz.ntmps20
  go_wp2_with fail
  clear k1
  go_loopg [3] p.length (fun f iv wr => ∃ i : Nat, i = O.length + f ∧ iv = .int .i64 (i : Int) ∧ f ≤ p.length ∧ w = wr)
  case atStart => exact ⟨st, HST.out, rfl, Nat.le_refl _, rfl⟩
  case round =>
    obtain ⟨i, hi, rfl, hf, rfl⟩ := hrel
    have hXl := HXl.out
    have z1 : ¬ (i : Int) < 0 := by omega
    have z2 : (0 : Int) ≤ (i : Int) := by omega
    have z3 : (i : Int) ≤ (X.length : Int) := by omega
    have z4 : i ≤ X.length := by omega
    rcases Nat.eq_zero_or_pos gk with h0 | h0
    · obtain rfl : i = O.length := by omega
      clear hi
      rcases Nat.eq_zero_or_pos O.length with hO0 | hO0
      · have g0 : ¬ (0 : Int) < (O.length : Int) := by omega
        clear hO0 h0 hXl
        go_wp2_with fail
        go_ret
        exact ⟨rfl, rfl⟩
      · obtain ⟨q, hq⟩ : ∃ q, O.length = q + 1 := ⟨O.length - 1, by omega⟩
        have hb := HEND.out q hq
        have g0 : (0 : Int) < (O.length : Int) := by omega
        have q1 : (((bu X q).toNat : Int) != 10) = false := by rw [hb]; rfl
        have r1 : IntKind.i64.wrap ((O.length : Int) - 1) = (q : Int) := by rw [i64_in _ (by omega)]; omega
        have r3 : q < X.length := by omega
        have r4 : (q : Int) < (X.length : Int) := by omega
        clear hb hq hO0 h0 hXl
        go_wp2_with fail
        go_ret
        exact ⟨rfl, rfl⟩
    · obtain ⟨f, rfl⟩ : ∃ f, gk = f + 1 := ⟨gk - 1, by omega⟩
      obtain ⟨q, rfl⟩ : ∃ q, i = q + 1 := ⟨i - 1, by omega⟩
      have hb : bu X q ≠ 10 := by
        have := HMID.out f (by omega)
        rwa [show O.length + f = q by omega] at this
      have q1 : (((bu X q).toNat : Int) != 10) = true := by simp; intro h; exact hb (UInt8.toNat.inj (by show (bu X q).toNat = 10; omega))
      have r1 : IntKind.i64.wrap (((q + 1 : Nat) : Int) - 1) = (q : Int) := by rw [i64_in _ (by omega)]; omega
      have r2 : IntKind.i64.wrap ((q : Int) + 1 - 1) = (q : Int) := by rw [i64_in _ (by omega)]; omega
      have r3 : q < X.length := by omega
      have r4 : (q : Int) < (X.length : Int) := by omega
      have HI := Lib.hid (show q = O.length + f by omega)
      have HF := Lib.hid (show f ≤ p.length by omega)
      clear hb hi hXl h0 hf
      go_wp2_with fail
      go_roundg f
      case measure => omega
      case rel => exact ⟨q, HI.out, by simp, HF.out, rfl⟩

set_option maxRecDepth 100000 in
set_option maxHeartbeats 8000000 in
theorem topDesk_walk (w : World) (T x : List UInt8) (h9 : T.length ≤ 9223372036854775807) (hx9 : x.length ≤ 9223372036854775807) (ht : TG w) (hm : ML w) (he : EV w) (hg : HG w) :
    Calls Tryz.prog 9 #[S T, S x] w fun e w' => e = .returned (.bool true) ∧ Below w.heap.size w w' := by
  have HV := Lib.hid (show Vars w from ⟨ht, hm, he, hg⟩)
  have HN := Lib.hid (run_any [110, 111, 119] w (by decide) HV.out)
  rw [runD_now] at HN
  clear ht hm he hg
  by_cases hlong : 2900 < T.length
  · have hl' : (2900 : Int) < (T.length : Int) := by omega
    clear hlong
    go_enter Tryz.func9, Tryz.ntmps9
    go_wp2_with fail
    refine HN.out.mono ?_
    rintro e w1 ⟨rfl, hb1⟩
    have HB1 := Lib.hid hb1
    clear hb1
    go_wp2_with fail
    go_ret
    exact ⟨rfl, HB1.out⟩
  have hl' : ¬ (2900 : Int) < (T.length : Int) := by omega
  have hTq : T.length = 0 ∨ ∃ q, T.length = q + 1 := by
    rcases Nat.eq_zero_or_pos T.length with h | h
    · exact .inl h
    · exact .inr ⟨T.length - 1, by omega⟩
  have hgo : (T.length = 0 ∧ T = []) ∨ (∃ q, T.length = q + 1 ∧ bu T q = 10) ∨ (∃ q, T.length = q + 1 ∧ bu T q ≠ 10) := by
    rcases hTq with h | ⟨q, h⟩
    · exact .inl ⟨h, List.length_eq_zero_iff.1 h⟩
    · by_cases hb : bu T q = 10
      · exact .inr (.inl ⟨q, h, hb⟩)
      · exact .inr (.inr ⟨q, h, hb⟩)
  clear hTq
  rcases hgo with hgo | hgo | ⟨q, hq, hb⟩
  rotate_left 2
  · have g0 : (0 : Int) < (T.length : Int) := by omega
    have q1 : (((bu T q).toNat : Int) != 10) = true := by simp; intro h; exact hb (UInt8.toNat.inj (by show (bu T q).toNat = 10; omega))
    have r1 : IntKind.i64.wrap ((T.length : Int) - 1) = (q : Int) := by rw [i64_in _ (by omega)]; omega
    have r3 : q < T.length := by omega
    have r4 : (q : Int) < (T.length : Int) := by omega
    clear hb hq hlong
    go_enter Tryz.func9, Tryz.ntmps9
    go_wp2_with fail
    refine HN.out.mono ?_
    rintro e w1 ⟨rfl, hb1⟩
    have HB1 := Lib.hid hb1
    clear hb1
    go_wp2_with fail
    go_ret
    exact ⟨rfl, HB1.out⟩
  · -- the text can go on
    have hT : T = [] ∨ bu T (T.length - 1) = 10 := .inl hgo.2
    have g0 : ¬ (0 : Int) < (T.length : Int) := by omega
    clear hgo
    have HT := Lib.hid hT
    clear hT
    by_cases hx8 : 24 < x.length
    · have e2 : (24 : Int) < (x.length : Int) := by omega
      go_enter Tryz.func9, Tryz.ntmps9
      go_wp2_with fail
      refine HN.out.mono ?_
      rintro e w1 ⟨rfl, hb1⟩
      have HB1 := Lib.hid hb1
      clear hb1
      go_wp2_with fail
      go_ret
      exact ⟨rfl, HB1.out⟩
    have e2 : ¬ (24 : Int) < (x.length : Int) := by omega
    go_enter Tryz.func9, Tryz.ntmps9
    go_wp2_with fail
    refine HN.out.mono ?_
    rintro e w1 ⟨rfl, hb1⟩
    have HB1 := Lib.hid hb1
    clear hb1
    go_wp2_with fail
    go_loopg [6] x.length (fun f iv wr => ∃ i : Nat, i + f = x.length ∧ iv = .int .i64 (i : Int) ∧ (x.take i).all lo = true ∧ wr = w1)
    case atStart => exact ⟨0, by omega, rfl, rfl, rfl⟩
    case round =>
      obtain ⟨i, hif, rfl, hall, hw⟩ := hrel
      obtain rfl : w1 = wr := hw.symm
      by_cases hlt : i < x.length
      · obtain ⟨f, rfl⟩ : ∃ f, gk = f + 1 := ⟨gk - 1, by omega⟩
        have hst : (x.take (i + 1)).all lo = ((x.take i).all lo && lo (bu x i)) := by rw [take_succ_bu hlt, List.all_append]; simp
        rw [hall, Bool.true_and] at hst
        have HST := Lib.hid hst
        have p1 : (i : Int) < (x.length : Int) := by omega
        have p4 : IntKind.i64.wrap ((i : Int) + 1) = (i : Int) + 1 := i64_in _ (by omega)
        clear hst hall
        by_cases u1 : ((bu x i).toNat : Int) < 97
        · go_wp2_with fail
          go_ret
          exact ⟨rfl, HB1.out⟩
        · by_cases u2 : (122 : Int) < ((bu x i).toNat : Int)
          · go_wp2_with fail
            go_ret
            exact ⟨rfl, HB1.out⟩
          · have HLO : Hid (lo (bu x i) = true) := Lib.hid (decide_eq_true (by omega))
            go_wp2_with fail
            go_roundg f
            case measure => omega
            case rel => exact ⟨i + 1, by omega, by simp, by rw [HST.out, HLO.out], rfl⟩
      · obtain rfl : i = x.length := by omega
        rw [List.take_length] at hall
        have p1 : ¬ (x.length : Int) < (x.length : Int) := by omega
        obtain ⟨O1, L1, O2, L2, O3, L3, O4, L4, ⟨a1, b1⟩, ⟨a2, b2⟩, ⟨a3, b3⟩, ⟨a4, b4⟩, hfin⟩ := topdesk_pure HT.out (by omega) hall (by omega)
        have HR1 := Lib.hid (fun W (hb : Below w.heap.size w W) => run_any (T ++ [110, 111, 119, 10]) W (by simp; omega) (HV.out.below hb))
        rw [a1] at HR1
        have q11 := runD_len (T ++ [110, 111, 119, 10])
        rw [a1] at q11
        have HL1 := Lib.hid (fun W => last_top O1 L1 b1 W (by omega))
        have HR2 := Lib.hid (fun W (hb : Below w.heap.size w W) => run_any (T ++ [99, 114, 97, 115, 104, 32, 57, 57, 57, 57, 57, 57, 57, 10, 110, 111, 119, 10]) W (by simp; omega) (HV.out.below hb))
        rw [a2] at HR2
        have q12 := runD_len (T ++ [99, 114, 97, 115, 104, 32, 57, 57, 57, 57, 57, 57, 57, 10, 110, 111, 119, 10])
        rw [a2] at q12
        have HL2 := Lib.hid (fun W => last_top O2 L2 b2 W (by omega))
        have HR3 := Lib.hid (fun W (hb : Below w.heap.size w W) => run_any (T ++ 102 :: 105 :: 110 :: 100 :: 32 :: (x ++ [10])) W (by simp; omega) (HV.out.below hb))
        rw [a3] at HR3
        have q13 := runD_len (T ++ 102 :: 105 :: 110 :: 100 :: 32 :: (x ++ [10]))
        rw [a3] at q13
        have HL3 := Lib.hid (fun W => last_top O3 L3 b3 W (by omega))
        have HR4 := Lib.hid (fun W (hb : Below w.heap.size w W) => run_any (T ++ 99 :: 114 :: 97 :: 115 :: 104 :: 32 :: 57 :: 57 :: 57 :: 57 :: 57 :: 57 :: 57 :: 10 :: 102 :: 105 :: 110 :: 100 :: 32 :: (x ++ [10])) W (by simp; omega) (HV.out.below hb))
        rw [a4] at HR4
        have q14 := runD_len (T ++ 99 :: 114 :: 97 :: 115 :: 104 :: 32 :: 57 :: 57 :: 57 :: 57 :: 57 :: 57 :: 57 :: 10 :: 102 :: 105 :: 110 :: 100 :: 32 :: (x ++ [10]))
        rw [a4] at q14
        have HL4 := Lib.hid (fun W => last_top O4 L4 b4 W (by omega))
        have HFIN := Lib.hid hfin
        clear a1 a2 a3 a4 b1 b2 b3 b4 hfin hall
        have s0 : ¬ 9223372036854775807 < T.length + 4 := by omega
        have s1 : ¬ 9223372036854775807 < T.length + 18 := by omega
        have s2 : ¬ 9223372036854775807 < T.length + 5 := by omega
        have s3 : ¬ 9223372036854775807 < T.length + 5 + x.length := by omega
        have s4 : ¬ 9223372036854775807 < T.length + (x.length + 5) := by omega
        have s5 : ¬ 9223372036854775807 < T.length + 5 + x.length + 1 := by omega
        have s6 : ¬ 9223372036854775807 < T.length + (x.length + 5) + 1 := by omega
        have s7 : ¬ 9223372036854775807 < T.length + 19 := by omega
        have s8 : ¬ 9223372036854775807 < T.length + 19 + x.length := by omega
        have s9 : ¬ 9223372036854775807 < T.length + (x.length + 19) := by omega
        have s10 : ¬ 9223372036854775807 < T.length + 19 + x.length + 1 := by omega
        have s11 : ¬ 9223372036854775807 < T.length + (x.length + 19) + 1 := by omega
        go_wp2_with fail
        refine (HR1.out _ HB1.out).mono ?_
        rintro e w2 ⟨rfl, hb⟩
        have HB2 := Lib.hid (HB1.out.trans (hb.mono HB1.out.size))
        clear hb
        go_wp2_with fail
        refine (HL1.out _).mono ?_
        rintro e w' ⟨rfl, rfl⟩
        go_wp2_with fail
        refine (HR2.out _ HB2.out).mono ?_
        rintro e w3 ⟨rfl, hb⟩
        have HB3 := Lib.hid (HB2.out.trans (hb.mono HB2.out.size))
        clear hb
        go_wp2_with fail
        refine (HL2.out _).mono ?_
        rintro e w' ⟨rfl, rfl⟩
        go_wp2_with fail
        refine (HR3.out _ HB3.out).mono ?_
        rintro e w4 ⟨rfl, hb⟩
        have HB4 := Lib.hid (HB3.out.trans (hb.mono HB3.out.size))
        clear hb
        go_wp2_with fail
        refine (HL3.out _).mono ?_
        rintro e w' ⟨rfl, rfl⟩
        go_wp2_with fail
        refine (HR4.out _ HB4.out).mono ?_
        rintro e w5 ⟨rfl, hb⟩
        have HB5 := Lib.hid (HB4.out.trans (hb.mono HB4.out.size))
        clear hb
        go_wp2_with fail
        refine (HL4.out _).mono ?_
        rintro e w' ⟨rfl, rfl⟩
        obtain ⟨rfl, rfl, hlen, hlen2, hemp⟩ := HFIN.out
        have v1 : (1 : Int) < (L1.length : Int) := by omega
        by_cases hx0 : x = []
        · have hL := hemp hx0
          subst hx0
          subst hL
          go_wp2_with fail
          go_ret
          exact ⟨rfl, HB5.out⟩
        · have hne : x.isEmpty = false := by cases x with
            | nil => exact absurd rfl hx0
            | cons => rfl
          have hne2 : (x == []) = false := by simpa using hx0
          clear hemp
          go_wp2_with fail
          go_ret
          exact ⟨rfl, HB5.out⟩
  · -- the text can go on
    obtain ⟨q, hq, hb⟩ := hgo
    have hT : T = [] ∨ bu T (T.length - 1) = 10 := .inr (by rw [hq]; exact hb)
    have g0 : (0 : Int) < (T.length : Int) := by omega
    have q1 : (((bu T q).toNat : Int) != 10) = false := by rw [hb]; rfl
    have r1 : IntKind.i64.wrap ((T.length : Int) - 1) = (q : Int) := by rw [i64_in _ (by omega)]; omega
    have r3 : q < T.length := by omega
    have r4 : (q : Int) < (T.length : Int) := by omega
    clear hb hq
    have HT := Lib.hid hT
    clear hT
    by_cases hx8 : 24 < x.length
    · have e2 : (24 : Int) < (x.length : Int) := by omega
      go_enter Tryz.func9, Tryz.ntmps9
      go_wp2_with fail
      refine HN.out.mono ?_
      rintro e w1 ⟨rfl, hb1⟩
      have HB1 := Lib.hid hb1
      clear hb1
      go_wp2_with fail
      go_ret
      exact ⟨rfl, HB1.out⟩
    have e2 : ¬ (24 : Int) < (x.length : Int) := by omega
    go_enter Tryz.func9, Tryz.ntmps9
    go_wp2_with fail
    refine HN.out.mono ?_
    rintro e w1 ⟨rfl, hb1⟩
    have HB1 := Lib.hid hb1
    clear hb1
    go_wp2_with fail
    go_loopg [6] x.length (fun f iv wr => ∃ i : Nat, i + f = x.length ∧ iv = .int .i64 (i : Int) ∧ (x.take i).all lo = true ∧ wr = w1)
    case atStart => exact ⟨0, by omega, rfl, rfl, rfl⟩
    case round =>
      obtain ⟨i, hif, rfl, hall, hw⟩ := hrel
      obtain rfl : w1 = wr := hw.symm
      by_cases hlt : i < x.length
      · obtain ⟨f, rfl⟩ : ∃ f, gk = f + 1 := ⟨gk - 1, by omega⟩
        have hst : (x.take (i + 1)).all lo = ((x.take i).all lo && lo (bu x i)) := by rw [take_succ_bu hlt, List.all_append]; simp
        rw [hall, Bool.true_and] at hst
        have HST := Lib.hid hst
        have p1 : (i : Int) < (x.length : Int) := by omega
        have p4 : IntKind.i64.wrap ((i : Int) + 1) = (i : Int) + 1 := i64_in _ (by omega)
        clear hst hall
        by_cases u1 : ((bu x i).toNat : Int) < 97
        · go_wp2_with fail
          go_ret
          exact ⟨rfl, HB1.out⟩
        · by_cases u2 : (122 : Int) < ((bu x i).toNat : Int)
          · go_wp2_with fail
            go_ret
            exact ⟨rfl, HB1.out⟩
          · have HLO : Hid (lo (bu x i) = true) := Lib.hid (decide_eq_true (by omega))
            go_wp2_with fail
            go_roundg f
            case measure => omega
            case rel => exact ⟨i + 1, by omega, by simp, by rw [HST.out, HLO.out], rfl⟩
      · obtain rfl : i = x.length := by omega
        rw [List.take_length] at hall
        have p1 : ¬ (x.length : Int) < (x.length : Int) := by omega
        obtain ⟨O1, L1, O2, L2, O3, L3, O4, L4, ⟨a1, b1⟩, ⟨a2, b2⟩, ⟨a3, b3⟩, ⟨a4, b4⟩, hfin⟩ := topdesk_pure HT.out (by omega) hall (by omega)
        have HR1 := Lib.hid (fun W (hb : Below w.heap.size w W) => run_any (T ++ [110, 111, 119, 10]) W (by simp; omega) (HV.out.below hb))
        rw [a1] at HR1
        have q11 := runD_len (T ++ [110, 111, 119, 10])
        rw [a1] at q11
        have HL1 := Lib.hid (fun W => last_top O1 L1 b1 W (by omega))
        have HR2 := Lib.hid (fun W (hb : Below w.heap.size w W) => run_any (T ++ [99, 114, 97, 115, 104, 32, 57, 57, 57, 57, 57, 57, 57, 10, 110, 111, 119, 10]) W (by simp; omega) (HV.out.below hb))
        rw [a2] at HR2
        have q12 := runD_len (T ++ [99, 114, 97, 115, 104, 32, 57, 57, 57, 57, 57, 57, 57, 10, 110, 111, 119, 10])
        rw [a2] at q12
        have HL2 := Lib.hid (fun W => last_top O2 L2 b2 W (by omega))
        have HR3 := Lib.hid (fun W (hb : Below w.heap.size w W) => run_any (T ++ 102 :: 105 :: 110 :: 100 :: 32 :: (x ++ [10])) W (by simp; omega) (HV.out.below hb))
        rw [a3] at HR3
        have q13 := runD_len (T ++ 102 :: 105 :: 110 :: 100 :: 32 :: (x ++ [10]))
        rw [a3] at q13
        have HL3 := Lib.hid (fun W => last_top O3 L3 b3 W (by omega))
        have HR4 := Lib.hid (fun W (hb : Below w.heap.size w W) => run_any (T ++ 99 :: 114 :: 97 :: 115 :: 104 :: 32 :: 57 :: 57 :: 57 :: 57 :: 57 :: 57 :: 57 :: 10 :: 102 :: 105 :: 110 :: 100 :: 32 :: (x ++ [10])) W (by simp; omega) (HV.out.below hb))
        rw [a4] at HR4
        have q14 := runD_len (T ++ 99 :: 114 :: 97 :: 115 :: 104 :: 32 :: 57 :: 57 :: 57 :: 57 :: 57 :: 57 :: 57 :: 10 :: 102 :: 105 :: 110 :: 100 :: 32 :: (x ++ [10]))
        rw [a4] at q14
        have HL4 := Lib.hid (fun W => last_top O4 L4 b4 W (by omega))
        have HFIN := Lib.hid hfin
        clear a1 a2 a3 a4 b1 b2 b3 b4 hfin hall
        have s0 : ¬ 9223372036854775807 < T.length + 4 := by omega
        have s1 : ¬ 9223372036854775807 < T.length + 18 := by omega
        have s2 : ¬ 9223372036854775807 < T.length + 5 := by omega
        have s3 : ¬ 9223372036854775807 < T.length + 5 + x.length := by omega
        have s4 : ¬ 9223372036854775807 < T.length + (x.length + 5) := by omega
        have s5 : ¬ 9223372036854775807 < T.length + 5 + x.length + 1 := by omega
        have s6 : ¬ 9223372036854775807 < T.length + (x.length + 5) + 1 := by omega
        have s7 : ¬ 9223372036854775807 < T.length + 19 := by omega
        have s8 : ¬ 9223372036854775807 < T.length + 19 + x.length := by omega
        have s9 : ¬ 9223372036854775807 < T.length + (x.length + 19) := by omega
        have s10 : ¬ 9223372036854775807 < T.length + 19 + x.length + 1 := by omega
        have s11 : ¬ 9223372036854775807 < T.length + (x.length + 19) + 1 := by omega
        go_wp2_with fail
        refine (HR1.out _ HB1.out).mono ?_
        rintro e w2 ⟨rfl, hb⟩
        have HB2 := Lib.hid (HB1.out.trans (hb.mono HB1.out.size))
        clear hb
        go_wp2_with fail
        refine (HL1.out _).mono ?_
        rintro e w' ⟨rfl, rfl⟩
        go_wp2_with fail
        refine (HR2.out _ HB2.out).mono ?_
        rintro e w3 ⟨rfl, hb⟩
        have HB3 := Lib.hid (HB2.out.trans (hb.mono HB2.out.size))
        clear hb
        go_wp2_with fail
        refine (HL2.out _).mono ?_
        rintro e w' ⟨rfl, rfl⟩
        go_wp2_with fail
        refine (HR3.out _ HB3.out).mono ?_
        rintro e w4 ⟨rfl, hb⟩
        have HB4 := Lib.hid (HB3.out.trans (hb.mono HB3.out.size))
        clear hb
        go_wp2_with fail
        refine (HL3.out _).mono ?_
        rintro e w' ⟨rfl, rfl⟩
        go_wp2_with fail
        refine (HR4.out _ HB4.out).mono ?_
        rintro e w5 ⟨rfl, hb⟩
        have HB5 := Lib.hid (HB4.out.trans (hb.mono HB4.out.size))
        clear hb
        go_wp2_with fail
        refine (HL4.out _).mono ?_
        rintro e w' ⟨rfl, rfl⟩
        obtain ⟨rfl, rfl, hlen, hlen2, hemp⟩ := HFIN.out
        have v1 : (1 : Int) < (L1.length : Int) := by omega
        by_cases hx0 : x = []
        · have hL := hemp hx0
          subst hx0
          subst hL
          go_wp2_with fail
          go_ret
          exact ⟨rfl, HB5.out⟩
        · have hne : x.isEmpty = false := by cases x with
            | nil => exact absurd rfl hx0
            | cons => rfl
          have hne2 : (x == []) = false := by simpa using hx0
          clear hemp
          go_wp2_with fail
          go_ret
          exact ⟨rfl, HB5.out⟩
end Go.Proofs.YteoofkinmilckaaGreatDoor
