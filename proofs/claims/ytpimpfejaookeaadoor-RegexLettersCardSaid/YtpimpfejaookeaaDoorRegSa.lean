/- The law RegexSays: its walk. Condition: errors.errorType. -/
import Derived.Test.YtpimpfejaookeaaDoorRegFs
import Derived.Test.YtpimpfejaookeaaDoorRegNs
import Derived.Test.YtpimpfejaookeaaDoorRegA
namespace Go.Proofs.YtpimpfejaookeaaDoor
open Go.RowKit Go.Lib Go.Sort IntWalk
attribute [local go_sem] byte_at str_app

theorem bad_e {p : List UInt8} {k : Int} (h4 : 12 < p.length → k = 4) (h2 : p.length ≤ 12 → k = 2 ∧ rdR p = none) : parsE p = k := by
  by_cases h : 12 < p.length
  · rw [h4 h]; exact parsE_long h
  · obtain ⟨rfl, hn⟩ := h2 (by omega)
    refine parsE_no (by omega) ?_
    have := rd_par p
    rw [hn] at this
    cases hp : par p with
    | none => rfl
    | some t => rw [hp] at this; exact this.elim
theorem good_e {p : List UInt8} {rt : Rt} (h12 : p.length ≤ 12) (h : rdR p = some rt) : parsE p = 0 ∧ ∃ t, par p = some t ∧ mt rt [] = nul t := by
  have := rd_par p
  rw [h] at this
  cases hp : par p with
  | none => rw [hp] at this; exact this.elim
  | some t => rw [hp] at this; exact ⟨parsE_of h12 hp, t, rfl, mt_nul this⟩
set_option maxRecDepth 100000 in
set_option maxHeartbeats 4000000 in
theorem fitsT_any (rt : Rt) (s : List UInt8) (hs : s.length ≤ 1000) (v : Value) (xs : List N4) (l : List UInt8) (b : Bool) (tp : Nat) (w : World) (hv : NV w 0 v xs) (hr : RepR xs rt tp) :
    Calls Tryd.prog 11 #[PV v l b tp, S s] w fun e w' => e = .returned (.bool (mt rt s)) ∧ Below w.heap.size w w' := by
  have HST := Lib.hid ((Below.refl w.heap.size w).alloc (Nat.le_refl _) (pObj v l b tp))
  have HC := Lib.hid (fits_any rt s hs xs v l b tp tp _ (hv.keep HST.out (Nat.le_refl _)) hr)
  have h1 := heap_alloc_new w (pObj v l b tp)
  obtain ⟨a0, a1, a2, a3, _, _, _, _⟩ := four_at h1
  generalize mt rt s = M at *
  clear hv hr h1
  go_enter Tryd.func11, Tryd.ntmps11
  go_wp2_with fail
  refine HC.out.mono ?_
  rintro e w1 ⟨rfl, hb⟩
  have HB := Lib.hid (HST.out.trans (hb.mono HST.out.size))
  clear hb
  go_wp2_with fail
  go_ret
  exact ⟨rfl, HB.out⟩
set_option maxRecDepth 100000 in
set_option maxHeartbeats 4000000 in
theorem says_bad (w : World) (p : List UInt8) (h9 : p.length ≤ 9223372036854775807) (hg : HG w) (he : parsE p ≠ 0) :
    Calls Tryd.prog 3 #[S p] w fun e w' => e = .returned (.bool true) ∧ Below w.heap.size w w' := by
  have HG0 := Lib.hid hg
  generalize hk : parsE p = k at *
  have HR : Hid (Calls Tryd.prog 8 #[S p] w fun e w' => e = .returned (.tuple #[PV (.slice none 0 0) [] false 0, .int .i64 k]) ∧ Below w.heap.size w w') := Lib.hid ((readR_any p w h9).mono fun e w' h => by
    refine ⟨?_, h.2⟩
    rcases h.1 with ⟨k', _, h4, h2, e1⟩ | ⟨h12, rt, _, _, _, hrt, _⟩
    · rw [e1, ← bad_e h4 h2, hk]
    · exact absurd (hk ▸ (good_e h12 hrt).1) he)
  have HC : Hid (∀ W, Calls Tryd.prog 10 #[S p] W fun e w' => e = .returned (errV k) ∧ Below W.heap.size W w') := Lib.hid fun W => by have := check_any p W h9; rwa [hk] at this
  have HN : Hid (∀ W, Calls Tryd.prog 14 #[S p] W fun e w' => e = .returned (.tuple #[.bool false, errV k]) ∧ Below W.heap.size W w') := Lib.hid fun W => (rnull_any p W h9).mono fun e w' h => by
    refine ⟨?_, h.2⟩
    rcases h.1 with ⟨_, e1⟩ | ⟨_, h0, _⟩
    · rw [e1, hk]
    · exact absurd (hk ▸ h0) he
  have HS : Hid (∀ W, Calls Tryd.prog 15 #[S p] W fun e w' => e = .returned (.tuple #[S [], .int .i64 0, errV k]) ∧ Below W.heap.size W w') := Lib.hid fun W => (rsigns_any p W h9).mono fun e w' h => by
    refine ⟨?_, h.2⟩
    rcases h.1 with ⟨_, e1⟩ | ⟨_, h0, _⟩
    · rw [e1, hk]
    · exact absurd (hk ▸ h0) he
  have HE : Hid (∀ W, HG W → Calls Tryd.prog 9 #[errV k, .int .i64 k] W fun e w' => e = .returned (.bool true) ∧ Below W.heap.size W w') := Lib.hid fun W h => (error_any k k W h).mono fun e w' h => ⟨by rw [h.1]; simp, h.2⟩
  have q1 : (k == 0) = false := by simpa using he
  generalize errV k = ev at *
  clear hg h9 hk
  go_enter Tryd.func3, Tryd.ntmps3
  go_wp2_with fail
  refine HR.out.mono ?_
  rintro e w1 ⟨rfl, hb1⟩
  have HA1 := Lib.hid (hb1.alloc hb1.size (pObj (.slice none 0 0) [] false 0))
  clear hb1 HR
  go_wp2_with fail
  refine (HC.out _).mono ?_
  rintro e w2 ⟨rfl, hb2⟩
  have HB2 := Lib.hid (HA1.out.trans (hb2.mono HA1.out.size))
  have HE2 := Lib.hid (HE.out _ (HG0.out.below HB2.out (Nat.le_refl _)))
  clear hb2 HC HA1
  go_wp2_with fail
  refine HE2.out.mono ?_
  rintro e w3 ⟨rfl, hb3⟩
  have HB3 := Lib.hid (HB2.out.trans (hb3.mono HB2.out.size))
  clear hb3 HB2 HE2
  go_wp2_with fail
  refine (HN.out _).mono ?_
  rintro e w4 ⟨rfl, hb4⟩
  have HB4 := Lib.hid (HB3.out.trans (hb4.mono HB3.out.size))
  have HE4 := Lib.hid (HE.out _ (HG0.out.below HB4.out (Nat.le_refl _)))
  clear hb4 HB3 HN
  go_wp2_with fail
  refine HE4.out.mono ?_
  rintro e w5 ⟨rfl, hb5⟩
  have HB5 := Lib.hid (HB4.out.trans (hb5.mono HB4.out.size))
  clear hb5 HB4 HE4
  go_wp2_with fail
  refine (HS.out _).mono ?_
  rintro e w6 ⟨rfl, hb6⟩
  have HB6 := Lib.hid (HB5.out.trans (hb6.mono HB5.out.size))
  have HE6 := Lib.hid (HE.out _ (HG0.out.below HB6.out (Nat.le_refl _)))
  clear hb6 HB5 HS
  go_wp2_with fail
  refine HE6.out.mono ?_
  rintro e w7 ⟨rfl, hb7⟩
  have HB7 := Lib.hid (HB6.out.trans (hb7.mono HB6.out.size))
  clear hb7 HB6 HE6
  go_wp2_with fail
  go_ret
  exact ⟨rfl, HB7.out⟩
set_option maxRecDepth 100000 in
set_option maxHeartbeats 4000000 in
theorem says_good (w : World) (p : List UInt8) (h12 : p.length ≤ 12) (hg : HG w) (he : parsE p = 0) :
    Calls Tryd.prog 3 #[S p] w fun e w' => e = .returned (.bool true) ∧ Below w.heap.size w w' := by
  have h9 : p.length ≤ 9223372036854775807 := by omega
  have HG0 := Lib.hid hg
  obtain ⟨_, t, ht⟩ := parsE_some he
  obtain ⟨rt, hrt, hrel⟩ := rd_some ht
  have hm : mt rt [] = nul t := mt_nul hrel
  have HR : Hid (Calls Tryd.prog 8 #[S p] w fun e w' => (∃ v xs kk, e = .returned (.tuple #[PV v [] false kk, .int .i64 0]) ∧ NV w' 0 v xs ∧ RepR xs rt kk) ∧ Below w.heap.size w w') := Lib.hid ((readR_any p w h9).mono fun e w' h => by
    refine ⟨?_, h.2⟩
    rcases h.1 with ⟨k', hk', h4, h2, e1⟩ | ⟨_, rt', v, xs, kk, hrt', e1, hnv, hrp, _⟩
    · have := (h2 h12).2
      rw [hrt] at this; cases this
    · rw [hrt] at hrt'
      injection hrt' with hrt'
      subst hrt'
      exact ⟨v, xs, kk, e1, hnv, hrp⟩)
  have HC : Hid (∀ W, Calls Tryd.prog 10 #[S p] W fun e w' => e = .returned .nilIface ∧ Below W.heap.size W w') := Lib.hid fun W => by have := check_any p W h9; rwa [he] at this
  have HN : Hid (∀ W, Calls Tryd.prog 14 #[S p] W fun e w' => e = .returned (.tuple #[.bool (nul t), .nilIface]) ∧ Below W.heap.size W w') := Lib.hid fun W => (rnull_any p W h9).mono fun e w' h => by
    refine ⟨?_, h.2⟩
    rcases h.1 with ⟨h0, _⟩ | ⟨t', _, _, ht', e1⟩
    · exact absurd he h0
    · rw [ht] at ht'
      injection ht' with ht'
      subst ht'
      exact e1
  have HS : Hid (∀ W, Calls Tryd.prog 15 #[S p] W fun e w' => e = .returned (.tuple #[S (sgs p), .int .i64 ((lets p).length : Int), .nilIface]) ∧ Below W.heap.size W w') := Lib.hid fun W => (rsigns_any p W h9).mono fun e w' h => by
    refine ⟨?_, h.2⟩
    rcases h.1 with ⟨h0, _⟩ | ⟨t', _, _, ht', e1⟩
    · exact absurd he h0
    · exact e1
  have HE : Hid (∀ W, HG W → Calls Tryd.prog 9 #[.nilIface, .int .i64 0] W fun e w' => e = .returned (.bool true) ∧ Below W.heap.size W w') := Lib.hid fun W h => (error_any 0 0 W h).mono fun e w' h => ⟨by rw [h.1]; rfl, h.2⟩
  have HF : Hid (∀ W v xs kk, NV W 0 v xs → RepR xs rt kk → Calls Tryd.prog 11 #[PV v [] false kk, S []] W fun e w' => e = .returned (.bool (nul t)) ∧ Below W.heap.size W w') := Lib.hid fun W v xs kk h1 h2 => by have := fitsT_any rt [] (by simp) v xs [] false kk W h1 h2; rwa [hm] at this
  have HSR := Lib.hid (fun W => signsR_any p W (by omega))
  have HLR := Lib.hid (fun W => letters_any p W (by omega))
  generalize nul t = n at *
  generalize sgs p = G at *
  generalize lets p = L at *
  clear hg h9 ht hm hrel hrt he h12
  have HNU : n = true ∨ n = false := by cases n <;> simp
  rcases HNU with rfl | rfl
  all_goals
    go_enter Tryd.func3, Tryd.ntmps3
    go_wp2_with fail
    refine HR.out.mono ?_
    rintro e w1 ⟨⟨v, xs, kk, rfl, hnv, hrp⟩, hb1⟩
    have HRP := Lib.hid hrp
    obtain ⟨A, c, rfl, _⟩ := own_shape hnv
    have HNV := Lib.hid (hnv.keep ((Below.refl w1.heap.size w1).alloc (Nat.le_refl _) (pObj (.slice A xs.length c) [] false kk)) (Nat.le_refl _))
    have HP1 := Lib.hid (heap_alloc_new w1 (pObj (.slice A xs.length c) [] false kk))
    have HA1 := Lib.hid (hb1.alloc hb1.size (pObj (.slice A xs.length c) [] false kk))
    clear hb1 HR hrp hnv
    go_wp2_with fail
    refine (HC.out _).mono ?_
    rintro e w2 ⟨rfl, hb2⟩
    have HN2 := Lib.hid (HNV.out.keep hb2 (Nat.le_refl _))
    have HP2 := Lib.hid ((hb2.block w1.heap.size (Array.getElem?_eq_some_iff.1 HP1.out).1).trans HP1.out)
    have HB2 := Lib.hid (HA1.out.trans (hb2.mono HA1.out.size))
    have HE2 := Lib.hid (HE.out _ (HG0.out.below HB2.out (Nat.le_refl _)))
    clear hb2 HC HA1 HNV HP1
    go_wp2_with fail
    refine HE2.out.mono ?_
    rintro e w3 ⟨rfl, hb3⟩
    have HB3 := Lib.hid (HB2.out.trans (hb3.mono HB2.out.size))
    have hp3 := (hb3.block _ (Array.getElem?_eq_some_iff.1 HP2.out).1).trans HP2.out
    have HFF := Lib.hid (HF.out w3 _ xs kk (HN2.out.keep hb3 (Nat.le_refl _)) HRP.out)
    obtain ⟨a0, a1, a2, a3, _, _, _, _⟩ := four_at hp3
    clear hb3 HB2 HE2 hp3 HP2 HN2
    go_wp2_with fail
    refine HFF.out.mono ?_
    rintro e w4 ⟨rfl, hb4⟩
    have HB4 := Lib.hid (HB3.out.trans (hb4.mono HB3.out.size))
    clear hb4 HFF HB3 a0 a1 a2 a3
    go_wp2_with fail
    refine (HSR.out _).mono ?_
    rintro e w5 ⟨rfl, hb5⟩
    have HB5 := Lib.hid (HB4.out.trans (hb5.mono HB4.out.size))
    clear hb5 HB4 HSR
    go_wp2_with fail
    refine (HLR.out _).mono ?_
    rintro e w' ⟨rfl, rfl⟩
    go_wp2_with fail
    refine (HN.out _).mono ?_
    rintro e w6 ⟨rfl, hb6⟩
    have HB6 := Lib.hid (HB5.out.trans (hb6.mono HB5.out.size))
    have HE6 := Lib.hid (HE.out _ (HG0.out.below HB6.out (Nat.le_refl _)))
    clear hb6 HN
    go_wp2_with fail
    refine HE6.out.mono ?_
    rintro e w7 ⟨rfl, hb7⟩
    have HB7 := Lib.hid (HB6.out.trans (hb7.mono HB6.out.size))
    clear hb7 HB6 HE6
    go_wp2_with fail
    refine (HS.out _).mono ?_
    rintro e w8 ⟨rfl, hb8⟩
    have HB8 := Lib.hid (HB7.out.trans (hb8.mono HB7.out.size))
    have HE8 := Lib.hid (HE.out _ (HG0.out.below HB8.out (Nat.le_refl _)))
    clear hb8 HS
    go_wp2_with fail
    refine HE8.out.mono ?_
    rintro e w9 ⟨rfl, hb9⟩
    have HB9 := Lib.hid (HB8.out.trans (hb9.mono HB8.out.size))
    clear hb9 HB8 HE8
    go_wp2_with fail
    go_ret
    exact ⟨rfl, HB9.out⟩
theorem regexSays_walk (w : World) (p : List UInt8) (h9 : p.length ≤ 9223372036854775807) (hg : HG w) :
    Calls Tryd.prog 3 #[S p] w fun e w' => e = .returned (.bool true) ∧ Below w.heap.size w w' := by
  by_cases he : parsE p = 0
  · exact says_good w p (parsE_some he).1 hg he
  · exact says_bad w p h9 hg he
end Go.Proofs.YtpimpfejaookeaaDoor
