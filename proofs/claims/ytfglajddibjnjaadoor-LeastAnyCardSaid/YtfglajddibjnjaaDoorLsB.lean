/- The document's Before: does a text stand ahead of another one. No condition. -/
import Derived.Test.YtfglajddibjnjaaDoorLsW
import Derived.Test.YtfglajddibjnjaaDoorLsA
namespace Go.Proofs.YtfglajddibjnjaaDoor
open Go.RowKit IntWalk
set_option linter.unusedSimpArgs false
attribute [local go_sem] byte_at str_app
attribute [local go_sem ↓] Go.wp_at_zero Go.wp_at_succ

theorem bef_drop {x y : List UInt8} {k : Nat} (hx : k < x.length) (hy : k < y.length) : bef (x.drop k) (y.drop k) = if bu x k = bu y k then bef (x.drop (k + 1)) (y.drop (k + 1)) else decide (bu x k < bu y k) := by
  have e1 : x.drop k = bu x k :: x.drop (k + 1) := by rw [List.drop_eq_getElem_cons hx]; unfold bu; rw [List.getElem?_eq_getElem hx]; rfl
  have e2 : y.drop k = bu y k :: y.drop (k + 1) := by rw [List.drop_eq_getElem_cons hy]; unfold bu; rw [List.getElem?_eq_getElem hy]; rfl
  rw [e1, e2]; rfl
theorem bef_stop {x y : List UInt8} {k : Nat} (hx : k ≤ x.length) (hy : k ≤ y.length) (h : k = x.length ∨ k = y.length) : bef (x.drop k) (y.drop k) = decide (x.length < y.length) := by
  rcases h with rfl | rfl
  · rw [List.drop_length]
    cases hd : y.drop x.length with
    | nil =>
      have := congrArg List.length hd
      rw [List.length_drop, List.length_nil] at this
      exact (decide_eq_false (by omega)).symm
    | cons a l =>
      have := congrArg List.length hd
      rw [List.length_drop, List.length_cons] at this
      exact (decide_eq_true (by omega)).symm
  · rw [List.drop_length]
    unfold bef
    exact (decide_eq_false (by omega)).symm

set_option maxRecDepth 100000 in
set_option maxHeartbeats 2000000 in
theorem before_any (x y : List UInt8) (w : World) (hy : y.length ≤ 9223372036854775807) :
    Calls Tryd.prog 16 #[S x, S y] w fun e w' => e = .returned (.bool (bef x y)) ∧ ∃ q, w' = w.drewN q := by
  go_enter Tryd.func16, Tryd.ntmps16
  go_wp2_with fail
  go_loopg [5] x.length (fun f iv wr => ∃ k q : Nat, k + f = x.length ∧ iv = .int .i64 (k : Int) ∧ k ≤ y.length ∧ wr = w.drewN q ∧ Hid (bef (x.drop k) (y.drop k) = bef x y))
  case atStart => exact ⟨0, 0, by omega, rfl, by omega, rfl, Lib.hid rfl⟩
  case round =>
    obtain ⟨k, q, hkf, rfl, hky, rfl, HE⟩ := hrel
    by_cases hlx : k < x.length
    · by_cases hly : k < y.length
      · obtain ⟨f, rfl⟩ : ∃ f, gk = f + 1 := ⟨gk - 1, by omega⟩
        have p1 : (k : Int) < (x.length : Int) := by omega
        have p2 : (k : Int) < (y.length : Int) := by omega
        have p3 : IntKind.i64.wrap ((k : Int) + 1) = (k : Int) + 1 := i64_in _ (by omega)
        have hs := bef_drop hlx hly
        by_cases he : bu x k = bu y k
        · rw [if_pos he] at hs
          have HE2 := Lib.hid (hs.symm.trans HE.out)
          have q1 : (((bu x k).toNat : Int) != ((bu y k).toNat : Int)) = false := by rw [he]; simp
          have q2 : ((bu x k).toNat != (bu y k).toNat) = false := by rw [he]; simp
          have q3 : (bu x k).toNat = (bu y k).toNat := by rw [he]
          clear hs HE he
          generalize hca : (bu x k).toNat = ca at *
          subst q3
          go_wp2_with fail
          go_quiet (fail)
          go_wp2_with fail
          go_roundg f
          case measure => omega
          case rel => exact ⟨k + 1, q + nq, by omega, by simp, by omega, by simp, HE2⟩
        · rw [if_neg he] at hs
          have HE2 := Lib.hid (hs.symm.trans HE.out)
          have hne : (bu x k).toNat ≠ (bu y k).toNat := fun e => he (UInt8.toNat.inj e)
          have q1 : (((bu x k).toNat : Int) != ((bu y k).toNat : Int)) = true := by simp; omega
          have q2 : ((bu x k).toNat != (bu y k).toNat) = true := by simp [hne]
          by_cases hlt : bu x k < bu y k
          · have q3 : (bu x k).toNat < (bu y k).toNat := by rw [UInt8.lt_iff_toNat_lt] at hlt; exact hlt
            have q4 : ((bu x k).toNat : Int) < ((bu y k).toNat : Int) := by omega
            rw [decide_eq_true hlt] at HE2
            clear hs HE he hlt
            go_wp2_with fail
            go_quiet (fail)
            go_wp2_with fail
            go_quiet (fail)
            go_wp2_with fail
            go_ret
            exact ⟨by rw [← HE2.out]; rfl, _, by simp; rfl⟩
          · have q3 : ¬ (bu x k).toNat < (bu y k).toNat := by rw [UInt8.lt_iff_toNat_lt] at hlt; exact hlt
            have q4 : ¬ ((bu x k).toNat : Int) < ((bu y k).toNat : Int) := by omega
            rw [decide_eq_false hlt] at HE2
            clear hs HE he hlt
            go_wp2_with fail
            go_quiet (fail)
            go_wp2_with fail
            go_quiet (fail)
            go_wp2_with fail
            go_ret
            exact ⟨by rw [← HE2.out]; rfl, _, by simp; rfl⟩
      · have hyl : k = y.length := by omega
        have HE2 := Lib.hid ((bef_stop (by omega) hky (.inr hyl)).symm.trans HE.out)
        have p1 : (k : Int) < (x.length : Int) := by omega
        have p2 : ¬ (k : Int) < (y.length : Int) := by omega
        have p3 : ¬ (x.length : Int) < (y.length : Int) := by omega
        have p4 : ¬ x.length < y.length := by omega
        rw [decide_eq_false (by omega : ¬ x.length < y.length)] at HE2
        clear HE hyl
        go_wp2_with fail
        go_ret
        exact ⟨by rw [← HE2.out]; rfl, q, rfl⟩
    · have hxl : k = x.length := by omega
      have HE2 := Lib.hid ((bef_stop (by omega) hky (.inl hxl)).symm.trans HE.out)
      have p1 : ¬ (k : Int) < (x.length : Int) := by omega
      by_cases hl : x.length < y.length
      · rw [decide_eq_true hl] at HE2
        have p3 : (x.length : Int) < (y.length : Int) := by omega
        clear HE hxl
        go_wp2_with fail
        go_ret
        exact ⟨by rw [← HE2.out]; rfl, q, rfl⟩
      · rw [decide_eq_false hl] at HE2
        have p3 : ¬ (x.length : Int) < (y.length : Int) := by omega
        clear HE hxl
        go_wp2_with fail
        go_ret
        exact ⟨by rw [← HE2.out]; rfl, q, rfl⟩
end Go.Proofs.YtfglajddibjnjaaDoor
