/- The law BookPlays: its walk. Condition: internal/strconv.uint64pow10, errors.errorType read as the library's text lays them. -/
import Derived.Test.YteoofkinmilckaaDoorBookK
import Derived.Test.YteoofkinmilckaaDoorBookC
import Derived.Test.YteoofkinmilckaaDoorBookE
namespace Go.Proofs.YteoofkinmilckaaDoor
open Go.RowKit IntWalk
attribute [local go_sem] byte_at str_app
attribute [local go_sem ↓] Go.wp_at_zero Go.wp_at_succ

abbrev xObj (s : BS) : Obj := .cells #[S s.now, S s.txt, .int .i64 (s.many : Int)] 43
/-- One foreign block. -/
def FX (g : Nat) (o : Obj) : Nat → Option Obj := fun k => if k = g then some o else none
theorem FX_at (g : Nat) (o : Obj) : FX g o g = some o := if_pos rfl
theorem FX_inv {g k : Nat} {o o' : Obj} (h : FX g o k = some o') : k = g ∧ o = o' := by
  unfold FX at h
  by_cases e : k = g
  · rw [if_pos e] at h; exact ⟨e, Option.some.inj h⟩
  · rw [if_neg e] at h; cases h
theorem FX_none {g k : Nat} {o : Obj} (h : FX g o k = none) : k ≠ g := fun e => by rw [e, FX_at] at h; cases h
theorem Bk.add {B b many : Nat} {now txt : List UInt8} {w : World} (h : Bk nF B b now txt many w) (o : Obj) : Bk (FX w.heap.size o) B b now txt many (w.alloc o) := by
  have hl := h.lt
  obtain ⟨p, hp, hB, v, hbk, hown, hne, hF⟩ := h
  refine ⟨p, hp, hB, v, (Lib.alloc_old w o b hl).trans hbk, ownF_stay hown fun y hy => Lib.alloc_old w o y (hown.lt y hy).2, hne, fun k o' hk => ?_⟩
  obtain ⟨rfl, rfl⟩ := FX_inv hk
  exact ⟨heap_alloc_new w o, by omega, fun e => by have := (hown.lt _ e).2; omega⟩
theorem Bk.play {B b g many : Nat} {now txt : List UInt8} {o o' : Obj} {w w4 w5 : World} (h : Bk (FX g o) B b now txt many w) (hb : Below w.heap.size w w4) (h5 : ∀ k, k ≠ g → w5.heap[k]? = w4.heap[k]?) (hg : w5.heap[g]? = some o') : Bk (FX g o') B b now txt many w5 :=
  h.turn (fun k hk hl => (h5 k (FX_none hk)).trans (hb.block k hl)) fun k o'' hk => by
    obtain ⟨rfl, rfl⟩ := FX_inv hk
    exact ⟨hg, o, FX_at _ _⟩
theorem set3_other {w : World} {g k : Nat} (h : k ≠ g) (x y z : Value) : (((w.setCell ⟨g, 0, none⟩ x).setCell ⟨g, 1, none⟩ y).setCell ⟨g, 2, none⟩ z).heap[k]? = w.heap[k]? :=
  (Below.heap_setCell _ _ _ k h).trans ((Below.heap_setCell _ _ _ k h).trans (Below.heap_setCell _ _ _ k h))
theorem below_set3 {w w4 : World} {B g : Nat} (h : Below B w w4) (hg : B ≤ g) (x y z : Value) : Below B w (((w4.setCell ⟨g, 0, none⟩ x).setCell ⟨g, 1, none⟩ y).setCell ⟨g, 2, none⟩ z) :=
  ((h.setCell (p := ⟨g, 0, none⟩) hg _).setCell (p := ⟨g, 1, none⟩) hg _).setCell (p := ⟨g, 2, none⟩) hg _

set_option maxRecDepth 100000 in
set_option maxHeartbeats 4000000 in
theorem bookPlays_walk (w : World) (A A2 : Option Addr) (n c m c2 : Nat) (L : List Int) (W : List (List UInt8)) (ht : TG w) (hg : HG w)
    (hL : Ints w w.heap.size A n L) (hW : Strs w w.heap.size A2 m W) (hW9 : ∀ x ∈ W, x.length ≤ 9223372036854775807) :
    Calls Tryd.prog 5 #[.slice A n c, .slice A2 m c2] w fun e w' => e = .returned (.bool true) ∧ Below w.heap.size w w' := by
  have HL := Lib.hid hL; have HW := Lib.hid hW; have HW9 := Lib.hid hW9; have HT := Lib.hid ht; have HG0 := Lib.hid hg
  clear hL hW hW9 ht hg
  have HK : Hid (putK n m = min 70 (min m (n / 2))) := Lib.hid rfl
  generalize putK n m = K at *
  go_enter Tryd.func5, Tryd.ntmps5
  go_wp2_with fail
  refine (new_any nF w (fun _ _ h => by cases h)).mono ?_
  rintro e w1 ⟨rfl, hk1, hb1⟩
  have HK1 : Hid (Bks (FX w1.heap.size (xObj (stS L W 0))) w.heap.size w.heap.size (stS L W 0) (w1.alloc (xObj (stS L W 0)))) := Lib.hid (hk1.add _)
  have HB1 := Lib.hid (hb1.alloc hb1.size (xObj (stS L W 0)))
  have HZ := Lib.hid hb1.size
  clear hk1 hb1
  go_wp2_with fail
  generalize w1.heap.size = g at *
  go_loopg [7] K (fun f iv wr => ∃ k : Nat, k + f = K ∧ iv = .int .i64 (k : Int) ∧ Bks (FX g (xObj (stS L W k))) w.heap.size w.heap.size (stS L W k) wr ∧ Below w.heap.size w wr)
  case atStart => exact ⟨0, by omega, rfl, HK1.out, HB1.out⟩
  case round =>
    obtain ⟨k, hkf, rfl, hbk, hB⟩ := hrel
    have hKd := HK.out
    have hgx : wr.heap[g]? = some (xObj (stS L W k)) := hbk.frame (FX_at _ _)
    have HBK := Lib.hid hbk; have HB := Lib.hid hB
    clear hbk hB HK1 HB1
    have g1 : IntKind.i64.wrap (2 * (k : Int)) = 2 * (k : Int) := i64_in _ (by omega)
    have g2 : IntKind.i64.wrap (2 * (k : Int) + 1) = 2 * (k : Int) + 1 := i64_in _ (by omega)
    have g3 : IntKind.i64.wrap ((k : Int) + 1) = (k : Int) + 1 := i64_in _ (by omega)
    by_cases hi : k < K
    · obtain ⟨f', rfl⟩ : ∃ f, gk = f + 1 := ⟨gk - 1, by omega⟩
      have d1 : (k : Int) < (m : Int) := by omega
      have d2 : 2 * (k : Int) + 1 < (n : Int) := by omega
      have d3 : (k : Int) < 70 := by omega
      have d1' : k < m := by omega
      have d2' : 2 * k + 1 < n := by omega
      have d3' : k < 70 := by omega
      have hSM := stS_small L W k
      have HS : Hid (∀ (o : Obj) (W5 : World), Bks (FX g o) w.heap.size w.heap.size (stS L W k) W5 → Below w.heap.size w W5 → Calls Tryd.prog 24 #[.pointer (some ⟨w.heap.size, 0, none⟩), .slice A n c, .slice A2 m c2, .int .i64 (k : Int)] W5 fun e w' => e = .returned (errV (stepS (stS L W k) (gi L (2 * k)) (gi L (2 * k + 1)) (li W k)).1) ∧ Below w.heap.size W5 w' ∧ Bks (FX g o) w.heap.size w.heap.size (stepS (stS L W k) (gi L (2 * k)) (gi L (2 * k + 1)) (li W k)).2 w') :=
        Lib.hid fun o W5 h5 hb5 => step_any (FX g o) w.heap.size w.heap.size (stS L W k) W5 A A2 n c m c2 k L W h5 (HT.out.below hb5 (Nat.le_refl _)) hSM hb5.size HT.out.lt (HL.out.below hb5) (HW.out.below hb5) HW9.out d1' d2' d3'
      have HX : Hid (stS L W (k + 1) = (stepS (stS L W k) (gi L (2 * k)) (gi L (2 * k + 1)) (li W k)).2) := Lib.hid rfl
      obtain ⟨bl, ol, rfl, hbl, cl0⟩ := (HL.out.below HB.out).at_ (k := 2 * k) (by omega)
      obtain ⟨bl', ol', e1, _, cl1⟩ := (HL.out.below HB.out).at_ (k := 2 * k + 1) (by omega)
      injection e1 with e1
      injection e1 with e2 e3 _
      subst e2 e3
      obtain ⟨bw, ow, rfl, hbw, cw⟩ := (HW.out.below HB.out).at_ d1'
      have hx9 : (li W k).length ≤ 9223372036854775807 := HW9.out _ (by rw [li_eq (by have := HW.out.1; omega)]; exact List.getElem_mem _)
      generalize gi L (2 * k) = p at *
      generalize gi L (2 * k + 1) = q at *
      generalize li W k = x at *
      generalize hs' : stS L W (k + 1) = s' at *
      have HS' := Lib.hid hs'; clear hs'
      generalize stS L W k = s at *
      have HE0 : Hid (stepS s p q x = ((stepS s p q x).1, (stepS s p q x).2)) := Lib.hid rfl
      rw [← HX.out] at HS HE0
      generalize (stepS s p q x).1 = e0 at *
      have f1 : IntKind.i64.wrap (2 * (k : Int)) = 2 * (k : Int) := i64_in _ (by omega)
      have f2 : (0 : Int) ≤ 2 * (k : Int) := by omega
      have f3 : (2 : Int) * (k : Int) < (n : Int) := by omega
      have f4 : (2 * (k : Int)).toNat = 2 * k := by omega
      have f5 : IntKind.i64.wrap (2 * (k : Int) + 1) = 2 * (k : Int) + 1 := i64_in _ (by omega)
      have f6 : (0 : Int) ≤ 2 * (k : Int) + 1 := by omega
      have f7 : (2 : Int) * (k : Int) + 1 < (n : Int) := by omega
      have f8 : (2 * (k : Int) + 1).toNat = 2 * k + 1 := by omega
      have f9 : (k : Int) < (m : Int) := by omega
      have HGX := Lib.hid hgx
      obtain ⟨c0, c1, c2, z0, z1, z2⟩ := three_at hgx
      have hgl : g < wr.drew.heap.size := (Array.getElem?_eq_some_iff.1 hgx).1
      clear hKd hgx
      have HQ : Hid (stepS s p q x = (e0, s')) := HE0
      by_cases hx : x = []
      · subst hx
        have HE : Hid (cutS s p q = (e0, s')) := Lib.hid ((if_pos rfl : stepS s p q [] = cutS s p q).symm.trans HQ.out)
        have HCT : Hid (∀ W4 : World, Calls Tryd.prog 23 #[BV s, .int .i64 p, .int .i64 q] W4 fun e w' => e = .returned (.tuple #[BV s', .int .i64 e0]) ∧ Below W4.heap.size W4 w') := Lib.hid fun W4 => by
          have := cutR_any s p q W4 hSM
          rw [HE.out] at this
          exact this
        go_upto_region 9 with fail
        go_cut [8] from 11 to 85 (fun e wx => e = .int .i64 e0 ∧ Hid (Bks (FX g (xObj s')) w.heap.size w.heap.size s wx) ∧ Hid (Below w.heap.size w wx) ∧ Hid (wx.heap[g]? = some (xObj s')))
        case first =>
          go_region_with (refine (HCT.out _).mono ?_; rintro e w4 ⟨rfl, hb4⟩; have hg4 : w4.heap[g]? = some (xObj s) := (hb4.block g hgl).trans HGX.out; obtain ⟨q0, q1, q2, q3, q4, q5⟩ := three_at hg4)
          all_goals
            have HB4 := Lib.hid (hb4)
            have HG4 := Lib.hid hg4
            clear hb4 hg4
            go_wp2_with fail
            go_meet
            exact ⟨rfl, Lib.hid (HBK.out.play ((Below.drew (Below.refl _ wr)).trans HB4.out) (fun k hk => set3_other hk _ _ _) (set3 HG4.out)), Lib.hid (below_set3 ((HB.out.drew).trans (HB4.out.mono HB.out.size)) HZ.out _ _ _), Lib.hid (set3 HG4.out)⟩
        case rest =>
          obtain ⟨rfl, HK5, HB5, HX5⟩ := hcut
          clear cl0 cl1 cw f1 f2 f3 f4 f5 f6 f7 f8 f9 c0 c1 c2 z0 z1 z2 HCT HE hx9 hgl
          go_upto_region 10 with fail
          have hd5 : Below wc.heap.size wc wc.drew := Below.drew (Below.refl _ wc)
          go_region_with (first
            | (refine (HS.out _ _ (HK5.out.below hd5) (HB5.out.drew)).mono ?_; rintro e w6 ⟨rfl, hb6, hk6⟩; have hB6 := (HB5.out.drew).trans hb6; obtain ⟨a0, a1, a2, _⟩ := three_at (hk6.frame (FX_at _ _)))
            | (refine (error_any e0 e0 w6 (HG0.out.below hB6 (Nat.le_refl _))).mono ?_; rw [beq_self_eq_true]; rintro e w7 ⟨rfl, hb7⟩; have hB7 := hB6.trans (hb7.mono hB6.size); have hk7 := hk6.below hb7; obtain ⟨b0, b1, b2, _⟩ := three_at (hk7.frame (FX_at _ _)))
            | (refine (text_all (FX g (xObj s')) w.heap.size w.heap.size s'.now s'.txt s'.many w7 hk7 hB7.size).mono ?_; rintro e w8 ⟨rfl, hk8, hb8⟩; have hB8 := hB7.trans hb8; obtain ⟨d0, d1, d2, _⟩ := three_at (hk8.frame (FX_at _ _)))
            | (refine (now_any _ _ _ _ _ _ _ hk8).mono ?_; rintro e w9 ⟨rfl, rfl⟩))
          all_goals
            have HK8 := Lib.hid hk8
            have HB8 := Lib.hid hB8
            clear hk8 hB8 hk7 hB7 hk6 hB6 hb6 hb7 hb8
            go_wp2_with fail
            go_roundg f'
            case measure => omega
            case rel => exact ⟨k + 1, by omega, by simp, by rw [HS'.out]; exact HK8.out, HB8.out⟩
      · have HE : Hid (putS s p x = (e0, s')) := Lib.hid ((if_neg hx : stepS s p q x = putS s p x).symm.trans HQ.out)
        have hne : x.isEmpty = false := by cases x with
          | nil => exact absurd rfl hx
          | cons => rfl
        have HCT : Hid (∀ W4 : World, Calls Tryd.prog 22 #[BV s, .int .i64 p, S x] W4 fun e w' => e = .returned (.tuple #[BV s', .int .i64 e0]) ∧ Below W4.heap.size W4 w') := Lib.hid fun W4 => by
          have := putR_any s x p W4 hSM hx9
          rw [HE.out] at this
          exact this
        go_upto_region 8 with fail
        go_cut [8] from 11 to 85 (fun e wx => e = .int .i64 e0 ∧ Hid (Bks (FX g (xObj s')) w.heap.size w.heap.size s wx) ∧ Hid (Below w.heap.size w wx) ∧ Hid (wx.heap[g]? = some (xObj s')))
        case first =>
          go_region_with (refine (HCT.out _).mono ?_; rintro e w4 ⟨rfl, hb4⟩; have hg4 : w4.heap[g]? = some (xObj s) := (hb4.block g hgl).trans HGX.out; obtain ⟨q0, q1, q2, q3, q4, q5⟩ := three_at hg4)
          all_goals
            have HB4 := Lib.hid (hb4)
            have HG4 := Lib.hid hg4
            clear hb4 hg4
            go_wp2_with fail
            go_meet
            exact ⟨rfl, Lib.hid (HBK.out.play ((Below.drew (Below.refl _ wr)).trans HB4.out) (fun k hk => set3_other hk _ _ _) (set3 HG4.out)), Lib.hid (below_set3 ((HB.out.drew).trans (HB4.out.mono HB.out.size)) HZ.out _ _ _), Lib.hid (set3 HG4.out)⟩
        case rest =>
          obtain ⟨rfl, HK5, HB5, HX5⟩ := hcut
          clear cl0 cl1 cw f1 f2 f3 f4 f5 f6 f7 f8 f9 c0 c1 c2 z0 z1 z2 HCT HE hx9 hgl
          go_upto_region 10 with fail
          have hd5 : Below wc.heap.size wc wc.drew := Below.drew (Below.refl _ wc)
          go_region_with (first
            | (refine (HS.out _ _ (HK5.out.below hd5) (HB5.out.drew)).mono ?_; rintro e w6 ⟨rfl, hb6, hk6⟩; have hB6 := (HB5.out.drew).trans hb6; obtain ⟨a0, a1, a2, _⟩ := three_at (hk6.frame (FX_at _ _)))
            | (refine (error_any e0 e0 w6 (HG0.out.below hB6 (Nat.le_refl _))).mono ?_; rw [beq_self_eq_true]; rintro e w7 ⟨rfl, hb7⟩; have hB7 := hB6.trans (hb7.mono hB6.size); have hk7 := hk6.below hb7; obtain ⟨b0, b1, b2, _⟩ := three_at (hk7.frame (FX_at _ _)))
            | (refine (text_all (FX g (xObj s')) w.heap.size w.heap.size s'.now s'.txt s'.many w7 hk7 hB7.size).mono ?_; rintro e w8 ⟨rfl, hk8, hb8⟩; have hB8 := hB7.trans hb8; obtain ⟨d0, d1, d2, _⟩ := three_at (hk8.frame (FX_at _ _)))
            | (refine (now_any _ _ _ _ _ _ _ hk8).mono ?_; rintro e w9 ⟨rfl, rfl⟩))
          all_goals
            have HK8 := Lib.hid hk8
            have HB8 := Lib.hid hB8
            clear hk8 hB8 hk7 hB7 hk6 hB6 hb6 hb7 hb8
            go_wp2_with fail
            go_roundg f'
            case measure => omega
            case rel => exact ⟨k + 1, by omega, by simp, by rw [HS'.out]; exact HK8.out, HB8.out⟩
    · obtain rfl : k = K := by omega
      have HD := Lib.hid hKd
      by_cases c1 : (k : Int) < (m : Int)
      · by_cases c2' : 2 * (k : Int) + 1 < (n : Int)
        · have c3 : ¬ (k : Int) < 70 := by omega
          have c1' : k < m := by omega
          have c3' : ¬ k < 70 := by omega
          clear hKd
          go_wp2_with fail
          go_ret
          exact ⟨rfl, HB.out⟩
        · have c1' : k < m := by omega
          clear hKd
          go_wp2_with fail
          go_ret
          exact ⟨rfl, HB.out⟩
      · have c1' : ¬ k < m := by omega
        clear hKd
        go_wp2_with fail
        go_ret
        exact ⟨rfl, HB.out⟩
end Go.Proofs.YteoofkinmilckaaDoor
