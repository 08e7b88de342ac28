/- The walk over the law YardSays. Conditions: the variables yard.kinds and errors.errorType read as the program's text lays them. -/
import Derived.Test.YtehecbfgdpaemaaDoorYardU
import Derived.Test.YtehecbfgdpaemaaDoorYardB
namespace Go.Proofs.YtehecbfgdpaemaaDoor
open Go.RowKit YardM IntWalk
attribute [local go_sem] byte_at str_app

/-- The error's number, and what is told besides. -/
def postE (l : List UInt8) : Int × List UInt8 := if 24 < l.length then (4, []) else match postM l with
  | some p => (0, p)
  | none => (2, [])
def veE (l : List UInt8) (o : Option Nat) : Int × Nat := if 24 < l.length then (4, 0) else match o with
  | some x => (0, x)
  | none => (2, 0)
theorem postA_any (l : List UInt8) (w : World) (hk : KG w) :
    Calls Tryd.prog 10 #[S l] w fun e w' => e = .returned (.tuple #[S (postE l).2, errV (postE l).1]) ∧ Below w.heap.size w w' := by
  by_cases h : 24 < l.length
  · refine (post_long l w h).mono ?_
    rintro e w' ⟨rfl, hb⟩
    exact ⟨by unfold postE; rw [if_pos h]; rfl, hb⟩
  · refine (post_ok l w (by omega) hk).mono ?_
    rintro e w' ⟨rfl, hb⟩
    refine ⟨?_, hb⟩
    unfold postE; rw [if_neg h]
    cases postM l <;> rfl
theorem veV_E (l : List UInt8) (o : Option Nat) : veV (ve l o) = .tuple #[.int .i64 ((veE l o).2 : Int), errV (veE l o).1] := by
  unfold ve veE
  by_cases h : 24 < l.length
  · rw [if_pos h, if_pos h]; rfl
  · rw [if_neg h, if_neg h]
    cases o <;> rfl
theorem valueA_any (l : List UInt8) (w : World) (hk : KG w) :
    Calls Tryd.prog 11 #[S l] w fun e w' => e = .returned (.tuple #[.int .i64 ((veE l (valM l)).2 : Int), errV (veE l (valM l)).1]) ∧ Below w.heap.size w w' := by
  rw [← veV_E]; exact value_any l w hk
theorem readA_any (l : List UInt8) (w : World) (hk : KG w) :
    Calls Tryd.prog 20 #[S l] w fun e w' => e = .returned (.tuple #[.int .i64 ((veE l (readM l)).2 : Int), errV (veE l (readM l)).1]) ∧ Below w.heap.size w w' := by
  rw [← veV_E]; exact read_any l w hk
theorem rpostA_any (s : List UInt8) (w : World) (hl : s.length ≤ 24) :
    Calls Tryd.prog 17 #[S s] w fun e w' => e = .returned (rpV (postM s)) ∧ w' = w := by
  have := rpost_any 25 s w (by omega) hl
  rw [rpost_post (by omega)] at this
  exact this

set_option maxRecDepth 100000 in
set_option maxHeartbeats 8000000 in
theorem yardSays_walk (s p : List UInt8) (w : World) (hs9 : s.length ≤ 9223372036854775807) (hp9 : p.length ≤ 9223372036854775807) (hk : KG w) (hg : HG w) :
    Calls Tryd.prog 7 #[S s, S p] w fun e w' => e = .returned (.bool true) ∧ Below w.heap.size w w' := by
  have HK := Lib.hid hk
  have HGH := Lib.hid hg
  clear hk hg
  go_enter Tryd.func7, Tryd.ntmps7
  by_cases h24 : s.length ≤ 24
  · have h24' : ¬ (24 < (s.length : Int)) := by omega
    go_wp2_with fail
    refine (rpostA_any s _ h24).mono ?_
    cases hp : postM s with
    | none =>
      rintro e w1 ⟨rfl, rfl⟩
      have hv : valM s = none := by unfold valM; rw [hp]; rfl
      have H1 := Lib.hid (show postE s = (2, []) by unfold postE; rw [if_neg (by omega), hp])
      have H2 := Lib.hid (show veE s (valM s) = (2, 0) by unfold veE; rw [if_neg (by omega), hv])
      clear hp hv
      unfold rpV
      go_wp2_with fail
      have hP := postA_any s w1 HK.out
      rw [H1.out] at hP
      refine hP.mono ?_
      rintro e w2a ⟨rfl, hb2⟩
      have HB2a := Lib.hid (hb2)
      clear hb2 hP
      go_wp2_with fail
      refine (error_any 2 2 w2a (HGH.out.below HB2a.out (Nat.le_refl _))).mono ?_
      rintro e w2 ⟨rfl, hb2⟩
      have HB2 := Lib.hid (HB2a.out.trans (hb2.mono HB2a.out.size))
      clear hb2
      go_wp2_with fail
      refine (valueA_any s w2 (HK.out.below HB2.out (Nat.le_refl _))).mono ?_
      rw [H2.out]
      rintro e w4 ⟨rfl, hb4⟩
      have HB4 := Lib.hid (HB2.out.trans (hb4.mono HB2.out.size))
      clear hb4
      go_wp2_with fail
      refine (error_any 2 2 w4 (HGH.out.below HB4.out (Nat.le_refl _))).mono ?_
      rintro e w5 ⟨rfl, hb5⟩
      have HB5 := Lib.hid (HB4.out.trans (hb5.mono HB4.out.size))
      clear hb5
      by_cases g24 : p.length ≤ 24
      · have g24' : ¬ (24 < (p.length : Int)) := by omega
        go_wp2_with fail
        refine (rread_any p w5 g24).mono ?_
        cases hp : readM p with
        | none =>
          have G1 := Lib.hid (show veE p (readM p) = (2, 0) by unfold veE; rw [if_neg (by omega), hp])
          clear hp
          rintro e w6 ⟨rfl, hb6⟩
          have HB6 := Lib.hid (HB5.out.trans (hb6.mono HB5.out.size)); clear hb6
          unfold rrV
          go_wp2_with fail
          refine (readA_any p w6 (HK.out.below HB6.out (Nat.le_refl _))).mono ?_
          rw [G1.out]
          rintro e w7 ⟨rfl, hb7⟩
          have HB7 := Lib.hid (HB6.out.trans (hb7.mono HB6.out.size)); clear hb7
          go_wp2_with fail
          refine (error_any 2 2 w7 (HGH.out.below HB7.out (Nat.le_refl _))).mono ?_
          rintro e w8 ⟨rfl, hb8⟩
          have HB8 := Lib.hid (HB7.out.trans (hb8.mono HB7.out.size)); clear hb8
          go_wp2_with fail
          go_ret
          exact ⟨rfl, HB8.out⟩
        | some y =>
          have G1 := Lib.hid (show veE p (readM p) = (0, y) by unfold veE; rw [if_neg (by omega), hp])
          clear hp
          rintro e w6 ⟨rfl, hb6⟩
          have HB6 := Lib.hid (HB5.out.trans (hb6.mono HB5.out.size)); clear hb6
          unfold rrV
          go_wp2_with fail
          refine (readA_any p w6 (HK.out.below HB6.out (Nat.le_refl _))).mono ?_
          rw [G1.out]
          rintro e w7 ⟨rfl, hb7⟩
          have HB7 := Lib.hid (HB6.out.trans (hb7.mono HB6.out.size)); clear hb7
          go_wp2_with fail
          refine (error_any 0 0 w7 (HGH.out.below HB7.out (Nat.le_refl _))).mono ?_
          rintro e w8 ⟨rfl, hb8⟩
          have HB8 := Lib.hid (HB7.out.trans (hb8.mono HB7.out.size)); clear hb8
          go_wp2_with fail
          go_ret
          exact ⟨rfl, HB8.out⟩
      · have g24' : (24 : Int) < (p.length : Int) := by omega
        have G1 := Lib.hid (show veE p (readM p) = (4, 0) by unfold veE; rw [if_pos (by omega)])
        go_wp2_with fail
        refine (readA_any p w5 (HK.out.below HB5.out (Nat.le_refl _))).mono ?_
        rw [G1.out]
        rintro e w7 ⟨rfl, hb7⟩
        have HB7 := Lib.hid (HB5.out.trans (hb7.mono HB5.out.size)); clear hb7
        go_wp2_with fail
        refine (error_any 4 4 w7 (HGH.out.below HB7.out (Nat.le_refl _))).mono ?_
        rintro e w8 ⟨rfl, hb8⟩
        have HB8 := Lib.hid (HB7.out.trans (hb8.mono HB7.out.size)); clear hb8
        go_wp2_with fail
        go_ret
        exact ⟨rfl, HB8.out⟩
    | some t =>
      rintro e w1 ⟨rfl, rfl⟩
      obtain ⟨x, hx1, hx2⟩ := val_some hp
      have hpl := postM_len hp
      have H1 := Lib.hid (show postE s = (0, t) by unfold postE; rw [if_neg (by omega), hp])
      have H2 := Lib.hid (show veE s (valM s) = (0, x) by unfold veE; rw [if_neg (by omega), hx2])
      have H3 := Lib.hid hx1
      clear hp hx1 hx2
      unfold rpV
      go_wp2_with fail
      refine (rread_any t w1 (by omega)).mono ?_
      rw [H3.out]
      rintro e w0 ⟨rfl, hb0⟩
      have HB0 := Lib.hid hb0; clear hb0
      unfold rrV
      go_wp2_with fail
      have hP := postA_any s w0 (HK.out.below HB0.out (Nat.le_refl _))
      rw [H1.out] at hP
      refine hP.mono ?_
      rintro e w2a ⟨rfl, hb2⟩
      have HB2a := Lib.hid (HB0.out.trans (hb2.mono HB0.out.size))
      clear hb2 hP
      go_wp2_with fail
      refine (error_any 0 0 w2a (HGH.out.below HB2a.out (Nat.le_refl _))).mono ?_
      rintro e w2 ⟨rfl, hb2⟩
      have HB2 := Lib.hid (HB2a.out.trans (hb2.mono HB2a.out.size))
      clear hb2
      go_wp2_with fail
      refine (valueA_any s w2 (HK.out.below HB2.out (Nat.le_refl _))).mono ?_
      rw [H2.out]
      rintro e w4 ⟨rfl, hb4⟩
      have HB4 := Lib.hid (HB2.out.trans (hb4.mono HB2.out.size))
      clear hb4
      go_wp2_with fail
      refine (error_any 0 0 w4 (HGH.out.below HB4.out (Nat.le_refl _))).mono ?_
      rintro e w5 ⟨rfl, hb5⟩
      have HB5 := Lib.hid (HB4.out.trans (hb5.mono HB4.out.size))
      clear hb5
      by_cases g24 : p.length ≤ 24
      · have g24' : ¬ (24 < (p.length : Int)) := by omega
        go_wp2_with fail
        refine (rread_any p w5 g24).mono ?_
        cases hp : readM p with
        | none =>
          have G1 := Lib.hid (show veE p (readM p) = (2, 0) by unfold veE; rw [if_neg (by omega), hp])
          clear hp
          rintro e w6 ⟨rfl, hb6⟩
          have HB6 := Lib.hid (HB5.out.trans (hb6.mono HB5.out.size)); clear hb6
          unfold rrV
          go_wp2_with fail
          refine (readA_any p w6 (HK.out.below HB6.out (Nat.le_refl _))).mono ?_
          rw [G1.out]
          rintro e w7 ⟨rfl, hb7⟩
          have HB7 := Lib.hid (HB6.out.trans (hb7.mono HB6.out.size)); clear hb7
          go_wp2_with fail
          refine (error_any 2 2 w7 (HGH.out.below HB7.out (Nat.le_refl _))).mono ?_
          rintro e w8 ⟨rfl, hb8⟩
          have HB8 := Lib.hid (HB7.out.trans (hb8.mono HB7.out.size)); clear hb8
          go_wp2_with fail
          go_ret
          exact ⟨rfl, HB8.out⟩
        | some y =>
          have G1 := Lib.hid (show veE p (readM p) = (0, y) by unfold veE; rw [if_neg (by omega), hp])
          clear hp
          rintro e w6 ⟨rfl, hb6⟩
          have HB6 := Lib.hid (HB5.out.trans (hb6.mono HB5.out.size)); clear hb6
          unfold rrV
          go_wp2_with fail
          refine (readA_any p w6 (HK.out.below HB6.out (Nat.le_refl _))).mono ?_
          rw [G1.out]
          rintro e w7 ⟨rfl, hb7⟩
          have HB7 := Lib.hid (HB6.out.trans (hb7.mono HB6.out.size)); clear hb7
          go_wp2_with fail
          refine (error_any 0 0 w7 (HGH.out.below HB7.out (Nat.le_refl _))).mono ?_
          rintro e w8 ⟨rfl, hb8⟩
          have HB8 := Lib.hid (HB7.out.trans (hb8.mono HB7.out.size)); clear hb8
          go_wp2_with fail
          go_ret
          exact ⟨rfl, HB8.out⟩
      · have g24' : (24 : Int) < (p.length : Int) := by omega
        have G1 := Lib.hid (show veE p (readM p) = (4, 0) by unfold veE; rw [if_pos (by omega)])
        go_wp2_with fail
        refine (readA_any p w5 (HK.out.below HB5.out (Nat.le_refl _))).mono ?_
        rw [G1.out]
        rintro e w7 ⟨rfl, hb7⟩
        have HB7 := Lib.hid (HB5.out.trans (hb7.mono HB5.out.size)); clear hb7
        go_wp2_with fail
        refine (error_any 4 4 w7 (HGH.out.below HB7.out (Nat.le_refl _))).mono ?_
        rintro e w8 ⟨rfl, hb8⟩
        have HB8 := Lib.hid (HB7.out.trans (hb8.mono HB7.out.size)); clear hb8
        go_wp2_with fail
        go_ret
        exact ⟨rfl, HB8.out⟩
  · have h24' : (24 : Int) < (s.length : Int) := by omega
    have H1 := Lib.hid (show postE s = (4, []) by unfold postE; rw [if_pos (by omega)])
    have H2 := Lib.hid (show veE s (valM s) = (4, 0) by unfold veE; rw [if_pos (by omega)])
    go_wp2_with fail
    have hP := postA_any s w HK.out
    rw [H1.out] at hP
    refine hP.mono ?_
    rintro e w2a ⟨rfl, hb2⟩
    have HB2a := Lib.hid (hb2)
    clear hb2 hP
    go_wp2_with fail
    refine (error_any 4 4 w2a (HGH.out.below HB2a.out (Nat.le_refl _))).mono ?_
    rintro e w2 ⟨rfl, hb2⟩
    have HB2 := Lib.hid (HB2a.out.trans (hb2.mono HB2a.out.size))
    clear hb2
    go_wp2_with fail
    refine (valueA_any s w2 (HK.out.below HB2.out (Nat.le_refl _))).mono ?_
    rw [H2.out]
    rintro e w4 ⟨rfl, hb4⟩
    have HB4 := Lib.hid (HB2.out.trans (hb4.mono HB2.out.size))
    clear hb4
    go_wp2_with fail
    refine (error_any 4 4 w4 (HGH.out.below HB4.out (Nat.le_refl _))).mono ?_
    rintro e w5 ⟨rfl, hb5⟩
    have HB5 := Lib.hid (HB4.out.trans (hb5.mono HB4.out.size))
    clear hb5
    by_cases g24 : p.length ≤ 24
    · have g24' : ¬ (24 < (p.length : Int)) := by omega
      go_wp2_with fail
      refine (rread_any p w5 g24).mono ?_
      cases hp : readM p with
      | none =>
        have G1 := Lib.hid (show veE p (readM p) = (2, 0) by unfold veE; rw [if_neg (by omega), hp])
        clear hp
        rintro e w6 ⟨rfl, hb6⟩
        have HB6 := Lib.hid (HB5.out.trans (hb6.mono HB5.out.size)); clear hb6
        unfold rrV
        go_wp2_with fail
        refine (readA_any p w6 (HK.out.below HB6.out (Nat.le_refl _))).mono ?_
        rw [G1.out]
        rintro e w7 ⟨rfl, hb7⟩
        have HB7 := Lib.hid (HB6.out.trans (hb7.mono HB6.out.size)); clear hb7
        go_wp2_with fail
        refine (error_any 2 2 w7 (HGH.out.below HB7.out (Nat.le_refl _))).mono ?_
        rintro e w8 ⟨rfl, hb8⟩
        have HB8 := Lib.hid (HB7.out.trans (hb8.mono HB7.out.size)); clear hb8
        go_wp2_with fail
        go_ret
        exact ⟨rfl, HB8.out⟩
      | some y =>
        have G1 := Lib.hid (show veE p (readM p) = (0, y) by unfold veE; rw [if_neg (by omega), hp])
        clear hp
        rintro e w6 ⟨rfl, hb6⟩
        have HB6 := Lib.hid (HB5.out.trans (hb6.mono HB5.out.size)); clear hb6
        unfold rrV
        go_wp2_with fail
        refine (readA_any p w6 (HK.out.below HB6.out (Nat.le_refl _))).mono ?_
        rw [G1.out]
        rintro e w7 ⟨rfl, hb7⟩
        have HB7 := Lib.hid (HB6.out.trans (hb7.mono HB6.out.size)); clear hb7
        go_wp2_with fail
        refine (error_any 0 0 w7 (HGH.out.below HB7.out (Nat.le_refl _))).mono ?_
        rintro e w8 ⟨rfl, hb8⟩
        have HB8 := Lib.hid (HB7.out.trans (hb8.mono HB7.out.size)); clear hb8
        go_wp2_with fail
        go_ret
        exact ⟨rfl, HB8.out⟩
    · have g24' : (24 : Int) < (p.length : Int) := by omega
      have G1 := Lib.hid (show veE p (readM p) = (4, 0) by unfold veE; rw [if_pos (by omega)])
      go_wp2_with fail
      refine (readA_any p w5 (HK.out.below HB5.out (Nat.le_refl _))).mono ?_
      rw [G1.out]
      rintro e w7 ⟨rfl, hb7⟩
      have HB7 := Lib.hid (HB5.out.trans (hb7.mono HB5.out.size)); clear hb7
      go_wp2_with fail
      refine (error_any 4 4 w7 (HGH.out.below HB7.out (Nat.le_refl _))).mono ?_
      rintro e w8 ⟨rfl, hb8⟩
      have HB8 := Lib.hid (HB7.out.trans (hb8.mono HB7.out.size)); clear hb8
      go_wp2_with fail
      go_ret
      exact ⟨rfl, HB8.out⟩
end Go.Proofs.YtehecbfgdpaemaaDoor
