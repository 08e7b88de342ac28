/- The law RegexLetters: its walk. Condition: errors.errorType. -/
import Derived.Test.YtpimpfejaookeaaDoorRegSa
import Derived.Test.YtpimpfejaookeaaDoorRegLp
namespace Go.Proofs.YtpimpfejaookeaaDoor
open Go.RowKit Go.Lib Go.Sort IntWalk
attribute [local go_sem] byte_at str_app

set_option maxRecDepth 100000 in
set_option maxHeartbeats 4000000 in
theorem letters_bad (w : World) (p s : List UInt8) (h9 : p.length ≤ 9223372036854775807) (hg : HG w) (he : parsE p ≠ 0) :
    Calls Tryd.prog 6 #[S p, S s] w fun e w' => e = .returned (.bool true) ∧ Below w.heap.size w w' := by
  have HFA := Lib.hid (regFact_any w hg)
  have HS : Hid (∀ W, Calls Tryd.prog 15 #[S p] W fun e w' => e = .returned (.tuple #[S [], .int .i64 0, .iface 51 (.int .i64 (parsE p))]) ∧ Below W.heap.size W w') := Lib.hid fun W => (rsigns_any p W h9).mono fun e w' h => by
    refine ⟨?_, h.2⟩
    rcases h.1 with ⟨_, e1⟩ | ⟨_, h0, _⟩
    · rw [e1, err_ne he]
    · exact absurd h0 he
  generalize parsE p = k at *
  clear hg h9 he
  go_enter Tryd.func6, Tryd.ntmps6
  go_wp2_with fail
  refine HFA.out.mono ?_
  rintro e w1 ⟨rfl, hb1⟩
  have HB1 := Lib.hid hb1
  clear hb1 HFA
  go_wp2_with fail
  refine (HS.out _).mono ?_
  rintro e w2 ⟨rfl, hb2⟩
  have HB2 := Lib.hid (HB1.out.trans (hb2.mono HB1.out.size))
  clear hb2 HB1 HS
  go_wp2_with fail
  go_ret
  exact ⟨rfl, HB2.out⟩
set_option maxRecDepth 100000 in
set_option maxHeartbeats 4000000 in
theorem letters_good (w : World) (p s : List UInt8) (h9s : s.length ≤ 9223372036854775807) (h12 : p.length ≤ 12) (hg : HG w) (he : parsE p = 0) :
    Calls Tryd.prog 6 #[S p, S s] w fun e w' => e = .returned (.bool true) ∧ Below w.heap.size w w' := by
  have HFA := Lib.hid (regFact_any w hg)
  have h9 : p.length ≤ 9223372036854775807 := by omega
  obtain ⟨_, t, ht⟩ := parsE_some he
  obtain ⟨rt, hrt, hrel⟩ := rd_some ht
  have HR : Hid (∀ W, Calls Tryd.prog 8 #[S p] W fun e w' => (∃ v xs kk, e = .returned (.tuple #[PV v [] false kk, .int .i64 0]) ∧ NV w' 0 v xs ∧ RepR xs rt kk) ∧ Below W.heap.size W w') := Lib.hid fun W => ((readR_any p W h9).mono fun e w' h => by
    refine ⟨?_, h.2⟩
    rcases h.1 with ⟨k', hk', h4, h2, e1⟩ | ⟨_, rt', v, xs, kk, hrt', e1, hnv, hrp, _⟩
    · have := (h2 h12).2
      rw [hrt] at this; cases this
    · rw [hrt] at hrt'
      injection hrt' with hrt'
      subst hrt'
      exact ⟨v, xs, kk, e1, hnv, hrp⟩)
  have HS : Hid (∀ W, Calls Tryd.prog 15 #[S p] W fun e w' => e = .returned (.tuple #[S (sgs p), .int .i64 ((lets p).length : Int), .nilIface]) ∧ Below W.heap.size W w') := Lib.hid fun W => (rsigns_any p W h9).mono fun e w' h => by
    refine ⟨?_, h.2⟩
    rcases h.1 with ⟨h0, _⟩ | ⟨t', _, _, ht', e1⟩
    · exact absurd he h0
    · exact e1
  have HF : Hid (s.length ≤ 8 → ∀ W v xs kk, NV W 0 v xs → RepR xs rt kk → Calls Tryd.prog 11 #[PV v [] false kk, S s] W fun e w' => e = .returned (.bool (mt rt s)) ∧ Below W.heap.size W w') := Lib.hid fun h8 W v xs kk h1 h2 => fitsT_any rt s (by omega) v xs [] false kk W h1 h2
  have hll := sgs_len p
  have hgl : (sgs p).length ≤ 1000 := by have := lets_len p; omega
  have HUP : Hid (∀ j i, j < i → i < (sgs p).length → (bu (sgs p) j).toNat < (bu (sgs p) i).toNat) := Lib.hid fun j i h h' => sgs_at p h h'
  have HST : Hid (mt rt s = true → ∀ i, i < s.length → ∀ W, Calls Tryd.prog 17 #[S (sgs p), S [bu s i]] W fun e w' => (∃ A k, e = .returned (.slice A 1 k)) ∧ Below W.heap.size W w') := Lib.hid fun hm i hi W => by
    have := standsR_any (sgs p) [bu s i] W hgl
    rwa [occ_sgs ht hrel hm (bu_mem hi)] at this
  have n1 : ¬ ((lets p).length : Int) < ((sgs p).length : Int) := by omega
  generalize mt rt s = M at *
  generalize sgs p = G at *
  generalize lets p = L at *
  have HGL := Lib.hid hgl
  have H9S := Lib.hid h9s
  clear hg h9 ht hrel hrt he h12 hll hgl h9s
  have HCA : 8 < s.length ∨ (s.length ≤ 8 ∧ M = false) ∨ (s.length ≤ 8 ∧ M = true) := by
    rcases Nat.lt_or_ge 8 s.length with h | h
    · exact .inl h
    · cases M <;> simp [h]
  go_enter Tryd.func6, Tryd.ntmps6
  go_wp2_with fail
  refine HFA.out.mono ?_
  rintro e w1 ⟨rfl, hb1⟩
  have HB1 := Lib.hid hb1
  clear hb1 HFA
  go_wp2_with fail
  refine (HS.out _).mono ?_
  rintro e w2 ⟨rfl, hb2⟩
  have HB2 := Lib.hid (HB1.out.trans (hb2.mono HB1.out.size))
  clear hb2 HB1 HS
  go_wp2_with fail
  go_loopg [9] G.length (fun f iv wr => ∃ i : Nat, i + f = G.length + 1 ∧ 1 ≤ i ∧ iv = .int .i64 (i : Int) ∧ Hid (Below w.heap.size w wr))
  case atStart => exact ⟨1, by omega, Nat.le_refl _, rfl, HB2⟩
  case round =>
    clear HB2
    obtain ⟨i, hif, hi1, rfl, HB3⟩ := hrel
    by_cases hlt : i < G.length
    · obtain ⟨f, rfl⟩ : ∃ f, gk = f + 1 := ⟨gk - 1, by omega⟩
      obtain ⟨j, hj⟩ : ∃ j, i = j + 1 := ⟨i - 1, by omega⟩
      have hup := HUP.out j i (by omega) hlt
      have HGL2 := HGL.out
      have p1 : (i : Int) < (G.length : Int) := by omega
      have p2 : (0 : Int) ≤ (i : Int) := by omega
      have p3 : IntKind.i64.wrap ((i : Int) + 1) = (i : Int) + 1 := i64_in _ (by omega)
      have p4 : IntKind.i64.wrap ((i : Int) - 1) = (j : Int) := by rw [i64_in _ (by omega)]; omega
      have p5 : (j : Int) < (G.length : Int) := by omega
      have p6 : (0 : Int) ≤ (j : Int) := by omega
      have p7 : ¬ ((bu G i).toNat : Int) ≤ ((bu G j).toNat : Int) := by omega
      have p8 : decide (((bu G i).toNat : Int) ≤ ((bu G j).toNat : Int)) = false := by simpa using p7
      have p9 : ¬ (bu G i).toNat ≤ (bu G j).toNat := by omega
      have HJ := Lib.hid hj
      clear hj hup HGL2
      go_wp2_with fail
      go_quiet (fail)
      go_wp2_with fail
      go_roundg f
      case measure => omega
      case rel => exact ⟨i + 1, by omega, by omega, by simp, Lib.hid (below_drewN HB3.out _)⟩
    · have p1 : ¬ (i : Int) < (G.length : Int) := by omega
      clear HUP hif hi1 hlt
      rcases HCA with h8 | ⟨h8, hM⟩ | ⟨h8, hM⟩
      · have q1 : (8 : Int) < (s.length : Int) := by omega
        clear h8 HF HST
        go_wp2_with fail
        refine (HR.out _).mono ?_
        rintro e w4 ⟨⟨v, xs, kk, rfl, hnv, hrp⟩, hb4⟩
        have HRP := Lib.hid hrp
        obtain ⟨A, c, rfl, _⟩ := own_shape hnv
        have HNV := Lib.hid (hnv.keep ((Below.refl w4.heap.size w4).alloc (Nat.le_refl _) (pObj (.slice A xs.length c) [] false kk)) (Nat.le_refl _))
        have HP1 := Lib.hid (heap_alloc_new w4 (pObj (.slice A xs.length c) [] false kk))
        have HB4 := Lib.hid (HB3.out.trans (hb4.mono HB3.out.size))
        have HA1 := Lib.hid (HB4.out.alloc HB4.out.size (pObj (.slice A xs.length c) [] false kk))
        clear hb4 hrp hnv HB3 HB4 HR
        go_wp2_with fail
        go_ret
        exact ⟨rfl, HA1.out⟩
      · have q1 : ¬ (8 : Int) < (s.length : Int) := by omega
        have HF2 := Lib.hid (HF.out h8)
        rw [hM] at HF2
        clear h8 hM HF HST
        go_wp2_with fail
        refine (HR.out _).mono ?_
        rintro e w4 ⟨⟨v, xs, kk, rfl, hnv, hrp⟩, hb4⟩
        have HRP := Lib.hid hrp
        obtain ⟨A, c, rfl, _⟩ := own_shape hnv
        have HNV := Lib.hid (hnv.keep ((Below.refl w4.heap.size w4).alloc (Nat.le_refl _) (pObj (.slice A xs.length c) [] false kk)) (Nat.le_refl _))
        have HP1 := Lib.hid (heap_alloc_new w4 (pObj (.slice A xs.length c) [] false kk))
        have HB4 := Lib.hid (HB3.out.trans (hb4.mono HB3.out.size))
        have HA1 := Lib.hid (HB4.out.alloc HB4.out.size (pObj (.slice A xs.length c) [] false kk))
        clear hb4 hrp hnv HB3 HB4 HR
        have HFF := Lib.hid (HF2.out _ _ xs kk HNV.out HRP.out)
        obtain ⟨a0, a1, a2, a3, _, _, _, _⟩ := four_at HP1.out
        go_wp2_with fail
        refine HFF.out.mono ?_
        rintro e w5 ⟨rfl, hb5⟩
        have HB5 := Lib.hid (HA1.out.trans (hb5.mono HA1.out.size))
        clear hb5 HFF
        go_wp2_with fail
        go_ret
        exact ⟨rfl, HB5.out⟩
      · have q1 : ¬ (8 : Int) < (s.length : Int) := by omega
        have HF2 := Lib.hid (HF.out h8)
        have HST2 := Lib.hid (HST.out hM)
        rw [hM] at HF2
        have H8 := Lib.hid h8
        clear h8 hM HF HST
        go_wp2_with fail
        refine (HR.out _).mono ?_
        rintro e w4 ⟨⟨v, xs, kk, rfl, hnv, hrp⟩, hb4⟩
        have HRP := Lib.hid hrp
        obtain ⟨A, c, rfl, _⟩ := own_shape hnv
        have HNV := Lib.hid (hnv.keep ((Below.refl w4.heap.size w4).alloc (Nat.le_refl _) (pObj (.slice A xs.length c) [] false kk)) (Nat.le_refl _))
        have HP1 := Lib.hid (heap_alloc_new w4 (pObj (.slice A xs.length c) [] false kk))
        have HB4 := Lib.hid (HB3.out.trans (hb4.mono HB3.out.size))
        have HA1 := Lib.hid (HB4.out.alloc HB4.out.size (pObj (.slice A xs.length c) [] false kk))
        clear hb4 hrp hnv HB3 HB4 HR
        have HFF := Lib.hid (HF2.out _ _ xs kk HNV.out HRP.out)
        obtain ⟨a0, a1, a2, a3, _, _, _, _⟩ := four_at HP1.out
        go_wp2_with fail
        refine HFF.out.mono ?_
        rintro e w5 ⟨rfl, hb5⟩
        have HB5 := Lib.hid (HA1.out.trans (hb5.mono HA1.out.size))
        clear hb5 HFF a0 a1 a2 a3 HA1 HP1 HNV HRP HF2
        go_wp2_with fail
        go_loopg [12] s.length (fun f iv wr => ∃ i : Nat, i + f = s.length ∧ iv = .int .i64 (i : Int) ∧ Hid (Below w.heap.size w wr))
        case atStart => exact ⟨0, by omega, rfl, HB5⟩
        case round =>
          clear HB5 p1
          obtain ⟨m, hmf, rfl, HB6⟩ := hrel
          by_cases hlt : m < s.length
          · obtain ⟨f, rfl⟩ : ∃ f, gk = f + 1 := ⟨gk - 1, by omega⟩
            have h88 := H8.out
            have hx := str_one hlt
            have p1 : (m : Int) < (s.length : Int) := by omega
            have p2 : (0 : Int) ≤ (m : Int) := by omega
            have p3 : IntKind.i64.wrap ((m : Int) + 1) = (m : Int) + 1 := i64_in _ (by omega)
            have p4 : (m : Int) ≤ (m : Int) + 1 := by omega
            have p5 : (m : Int) + 1 ≤ (s.length : Int) := by omega
            have p6 : ((m : Int) + 1).toNat = m + 1 := by omega
            have HS2 := Lib.hid (HST2.out m hlt)
            generalize bu s m = c at *
            clear h88 hlt
            go_wp2_with fail
            refine (HS2.out _).mono ?_
            rintro e w7 ⟨⟨A7, k7, rfl⟩, hb7⟩
            have HB7 := Lib.hid (HB6.out.trans (hb7.mono HB6.out.size))
            clear hb7
            go_wp2_with fail
            go_roundg f
            case measure => omega
            case rel => exact ⟨m + 1, by omega, by simp, HB7⟩
          · obtain rfl : m = s.length := by omega
            have p1 : ¬ (s.length : Int) < (s.length : Int) := by omega
            go_wp2_with fail
            go_ret
            exact ⟨rfl, HB6.out⟩
theorem regexLetters_walk (w : World) (p s : List UInt8) (h9 : p.length ≤ 9223372036854775807) (h9s : s.length ≤ 9223372036854775807) (hg : HG w) :
    Calls Tryd.prog 6 #[S p, S s] w fun e w' => e = .returned (.bool true) ∧ Below w.heap.size w w' := by
  by_cases he : parsE p = 0
  · exact letters_good w p s h9s (parsE_some he).1 hg he
  · exact letters_bad w p s h9 hg he
end Go.Proofs.YtpimpfejaookeaaDoor
