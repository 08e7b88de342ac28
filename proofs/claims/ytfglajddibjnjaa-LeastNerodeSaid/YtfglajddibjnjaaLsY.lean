/- LeastTwice: the least machine is its own least, and machines that take the same have one. No condition. -/
import Derived.Test.YtfglajddibjnjaaLsX
namespace Go.Proofs.Ytfglajddibjnjaa
open Go.RowKit IntWalk
set_option linter.unusedSimpArgs false
attribute [local go_sem] byte_at str_app
attribute [local go_sem ↓] Go.wp_at_zero Go.wp_at_succ

/-- A machine in a block of its own. -/
def At3 (w : World) (g : Nat) (sg : List UInt8) (A : Option Addr) (n c : Nat) (A2 : Option Addr) (m c2 : Nat) : Prop := w.heap[g]? = some (.cells #[S sg, .slice A n c, .slice A2 m c2] 25 (0, 0))
section
variable {w w' : World} {g n c m c2 B : Nat} {sg : List UInt8} {A A2 : Option Addr}
theorem At3.lt (h : At3 w g sg A n c A2 m c2) : g < w.heap.size := (Array.getElem?_eq_some_iff.1 h).1
theorem At3.below (h : At3 w g sg A n c A2 m c2) (hb : Below B w w') (hg : g < B) : At3 w' g sg A n c A2 m c2 := (hb.block g hg).trans h
theorem At3.cells (h : At3 w g sg A n c A2 m c2) : w.cell? ⟨g, 0, none⟩ = some (S sg) ∧ w.cell? ⟨g, 1, none⟩ = some (.slice A n c) ∧ w.cell? ⟨g, 2, none⟩ = some (.slice A2 m c2) := by
  obtain ⟨a, b, c, _⟩ := three_atL h
  exact ⟨a, b, c⟩
theorem At3.new (w : World) (sg : List UInt8) (A : Option Addr) (n c : Nat) (A2 : Option Addr) (m c2 : Nat) : At3 (w.alloc (.cells #[S sg, .slice A n c, .slice A2 m c2] 25)) w.heap.size sg A n c A2 m c2 := heap_alloc_new w _
end
theorem same_least {M : Mc} (h : M.Ok) : sameB M M.least = true ∧ sameE M M.least = 0 := by
  have h1 := Mc.wrong_zero.2 h
  have h2 := Mc.wrong_zero.2 (Mc.least_ok h)
  refine ⟨decide_eq_true ⟨h1, h2, rfl, by rw [Mc.least_least h], by rw [Mc.least_least h]⟩, ?_⟩
  unfold sameE
  rw [if_neg (by omega), if_neg (by omega), if_neg (fun h => h rfl)]
theorem same_mc {M M2 : Mc} (h : M.Ok) (h2 : M2.Ok) (hs : M.sg = M2.sg) : sameB M M2 = decide (M.least = M2.least) ∧ sameE M M2 = 0 := by
  have e1 := Mc.wrong_zero.2 h
  have e2 := Mc.wrong_zero.2 h2
  refine ⟨?_, ?_⟩
  · unfold sameB
    refine decide_eq_decide.2 ⟨fun ⟨_, _, _, ht, hn⟩ => mc_ext hs hn ht, fun e => ⟨e1, e2, hs, by rw [e], by rw [e]⟩⟩
  · unfold sameE
    rw [if_neg (by omega), if_neg (by omega), if_neg (fun h => h hs)]

set_option maxRecDepth 100000 in
set_option maxHeartbeats 4000000 in
theorem leastTwice_walk (M M2 : Mc) (A A2 A' A2' : Option Addr) (n c m c2 n' c' m' c2' : Nat) (W : World) (hM : MacW W W.heap.size A n A2 m M) (hM' : MacW W W.heap.size A' n' A2' m' M2) :
    Calls Try.prog 3 #[mcv M.sg A n c A2 m c2, mcv M2.sg A' n' c' A2' m' c2'] W fun e w' => e = .returned (.bool true) ∧ Below W.heap.size W w' := by
  have h0 := At3.new W M.sg A n c A2 m c2
  have hb0 := (Below.refl W.heap.size W).alloc (Nat.le_refl _) (.cells #[S M.sg, .slice A n c, .slice A2 m c2] 25)
  generalize hw1 : W.alloc (.cells #[S M.sg, .slice A n c, .slice A2 m c2] 25) = w1 at *
  have hz1 : w1.heap.size = W.heap.size + 1 := by rw [← hw1]; simp
  have h1 := At3.new w1 M2.sg A' n' c' A2' m' c2'
  have h0' : At3 (w1.alloc (.cells #[S M2.sg, .slice A' n' c', .slice A2' m' c2'] 25)) W.heap.size M.sg A n c A2 m c2 := h0.below ((Below.refl w1.heap.size w1).alloc (Nat.le_refl _) _) (by omega)
  have hb1 := hb0.alloc (by omega) (.cells #[S M2.sg, .slice A' n' c', .slice A2' m' c2'] 25)
  rw [hz1] at h1
  generalize hw2 : w1.alloc (.cells #[S M2.sg, .slice A' n' c', .slice A2' m' c2'] 25) = w2 at *
  have hz2 : w2.heap.size = W.heap.size + 2 := by rw [← hw2]; simp [hz1]
  have HB := Lib.hid hb1
  have HA := Lib.hid (And.intro h0' h1)
  have HZ := Lib.hid hz2
  have HM := Lib.hid (And.intro hM hM')
  clear h0 h1 h0' hb0 hb1 hz2 hM hM'
  go_enter Try.func3, Try.ntmps3
  go_wp2_with fail
  clear hw1 hw2 hz1
  refine Calls.mono (fact_any w2) ?_
  rintro e w3 ⟨rfl, hb3⟩
  have HB3 := Lib.hid (HB.out.trans (hb3.mono HB.out.size))
  have HA3 := Lib.hid (And.intro (HA.out.1.below hb3 (by have := HZ.out; omega)) (HA.out.2.below hb3 (by have := HZ.out; omega)))
  have HZ3 : Hid (W.heap.size + 2 ≤ w3.heap.size) := Lib.hid (by have := hb3.size; have := HZ.out; omega)
  clear hb3 HA HB HZ
  obtain ⟨a0, a1, a2⟩ := HA3.out.1.cells
  have hm3 := HM.out.1.below HB3.out
  by_cases hw : M.wrong = 0
  · have hO := Mc.wrong_zero.1 hw
    have HO := Lib.hid hO
    have HCK := Lib.hid (of_ok M hO A A2 n c m c2 W.heap.size w3 hm3 HB3.out.size)
    clear hw hO hm3
    go_wp2_with fail
    clear a0 a1 a2
    refine HCK.out.mono ?_
    rintro e w4 ⟨⟨A3, k3, A4, k4, rfl, hm4⟩, hb4⟩
    have h4 := At3.new w4 M.sg A3 M.least.n k3 A4 M.least.n k4
    have hb5 := (hb4.mono (Nat.le_refl _)).alloc hb4.size (.cells #[S M.sg, .slice A3 M.least.n k3, .slice A4 M.least.n k4] 25)
    have hm5 := hm4.below ((Below.refl w4.heap.size w4).alloc (Nat.le_refl _) (.cells #[S M.sg, .slice A3 M.least.n k3, .slice A4 M.least.n k4] 25))
    have hz4 := hb4.size
    clear hb4 hm4 HCK
    generalize hw5 : w4.alloc (.cells #[S M.sg, .slice A3 M.least.n k3, .slice A4 M.least.n k4] 25) = w5 at *
    have hz5 : w5.heap.size = w4.heap.size + 1 := by rw [← hw5]; simp
    have HX := Lib.hid h4
    have HB5 := Lib.hid (HB3.out.trans (hb5.mono HB3.out.size))
    have HA5 := Lib.hid (And.intro (HA3.out.1.below hb5 HA3.out.1.lt) (HA3.out.2.below hb5 HA3.out.2.lt))
    have HM5 := Lib.hid (hm5.more (B' := w5.heap.size) (by omega))
    have HZ5 : Hid (W.heap.size + 2 ≤ w4.heap.size ∧ w5.heap.size = w4.heap.size + 1) := Lib.hid ⟨by have := HZ3.out; omega, hz5⟩
    obtain ⟨b0, b1, b2⟩ := h4.cells
    clear h4 hb5 hm5 hz4 hz5
    go_wp2_with fail
    clear b0 b1 b2 hw5
    refine Calls.mono (of_ok M.least (Mc.least_ok HO.out) A3 A4 M.least.n k3 M.least.n k4 w5.heap.size w5 HM5.out (Nat.le_refl _)) ?_
    rw [Mc.least_least HO.out, show M.least.sg = M.sg from rfl]
    rintro e w6 ⟨⟨A5, k5, A6, k6, rfl, hm6⟩, hb6⟩
    have h6 := At3.new w6 M.sg A5 M.least.n k5 A6 M.least.n k6
    have hb7 := hb6.alloc hb6.size (.cells #[S M.sg, .slice A5 M.least.n k5, .slice A6 M.least.n k6] 25)
    have hm7 := hm6.below ((Below.refl w6.heap.size w6).alloc (Nat.le_refl _) (.cells #[S M.sg, .slice A5 M.least.n k5, .slice A6 M.least.n k6] 25))
    have hz6 := hb6.size
    clear hb6 hm6
    have hx6 := HX.out.below hb7 HX.out.lt
    have ha6 := And.intro (HA5.out.1.below hb7 HA5.out.1.lt) (HA5.out.2.below hb7 HA5.out.2.lt)
    obtain ⟨y0, y1, y2⟩ := ha6.1.cells
    obtain ⟨d0, d1, d2⟩ := hx6.cells
    generalize hw7 : w6.alloc (.cells #[S M.sg, .slice A5 M.least.n k5, .slice A6 M.least.n k6] 25) = w7 at *
    have hz7 : w7.heap.size = w6.heap.size + 1 := by rw [← hw7]; simp
    have HY := Lib.hid h6
    have HX7 := Lib.hid hx6
    have HA7 := Lib.hid ha6
    have HB7 := Lib.hid (HB5.out.trans (hb7.mono HB5.out.size))
    have HM7 := Lib.hid (hm7.more (B' := w7.heap.size) (by omega))
    have HM57 := Lib.hid ((HM5.out.below hb7).more (B' := w7.heap.size) (by omega))
    have HZ7 : Hid (w5.heap.size ≤ w6.heap.size ∧ w7.heap.size = w6.heap.size + 1) := Lib.hid ⟨hz6, hz7⟩
    clear h6 hx6 ha6 hb7 hm7 hz6 hz7
    go_wp2_with fail
    clear hw7 y0 y1 y2 d0 d1 d2
    refine Calls.mono (same_any M M.least A A2 A3 A4 n c m c2 M.least.n k3 M.least.n k4 w7.heap.size w7 ((HM.out.1.below HB7.out).more HB7.out.size) HM57.out (Nat.le_refl _)) ?_
    rw [(same_least HO.out).1, (same_least HO.out).2, show errV 0 = .nilIface from rfl]
    rintro e w8 ⟨rfl, hb8⟩
    have hx8 := HX7.out.below hb8 HX7.out.lt
    have hy8 := HY.out.below hb8 HY.out.lt
    have HB8 := Lib.hid (HB7.out.trans (hb8.mono HB7.out.size))
    have HA8 := Lib.hid (And.intro (HA7.out.1.below hb8 HA7.out.1.lt) (HA7.out.2.below hb8 HA7.out.2.lt))
    have hm58 := (HM57.out.below hb8).more hb8.size
    have hm78 := (HM7.out.below hb8).more hb8.size
    clear hb8
    obtain ⟨d0, d1, d2⟩ := hx8.cells
    obtain ⟨g0, g1, g2⟩ := hy8.cells
    have HX8 := Lib.hid (And.intro hx8 hx8.lt)
    have HM58 := Lib.hid hm58
    have HN1 : Hid (M.least.n ≤ 100000) := Lib.hid (by have := Mc.least_le HO.out; have := HO.out.small; omega)
    have HN2 : Hid (∀ i, i < M.least.n → (ro M.least.nx i).length ≤ 100000) := Lib.hid (fun i hi => by have h1 := (Mc.least_ok HO.out).row i hi; have h2 := (Mc.least_ok HO.out).few; omega)
    have hsm := (smM_any M.least M.least A3 A4 A5 A6 M.least.n k3 M.least.n k4 M.least.n k5 M.least.n k6 w8.heap.size w8 hm58 hm78 (Nat.le_refl _) HN1.out (by rw [← hm58.m_eq, (Mc.least_ok HO.out).tak]; exact HN1.out) HN2.out)
    rw [show decide (M.least = M.least) = true from decide_eq_true rfl] at hsm
    have HSM := Lib.hid hsm
    clear hsm hx8 hy8 hm58 hm78
    go_wp2_with fail
    clear d0 d1 d2 g0 g1 g2
    refine HSM.out.mono ?_
    rintro e w9 ⟨rfl, hb9⟩
    have HB9 := Lib.hid (HB8.out.trans (hb9.mono HB8.out.size))
    have HA9 := Lib.hid (And.intro (HA8.out.1.below hb9 HA8.out.1.lt) (HA8.out.2.below hb9 HA8.out.2.lt))
    have HX9 := Lib.hid (And.intro (HX8.out.1.below hb9 HX8.out.2) (Nat.lt_of_lt_of_le HX8.out.2 hb9.size))
    have HM59 := Lib.hid ((HM58.out.below hb9).more hb9.size)
    have hm9 := HM.out.2.below HB9.out
    obtain ⟨e0, e1, e2⟩ := HA9.out.2.cells
    clear hb9 HSM HA8 HA7 HA5 HX HX7 HX8 HM58 HM57 HM5 HM7 HY HA3
    by_cases hw2 : M2.wrong = 0
    · have HO2 := Lib.hid (Mc.wrong_zero.1 hw2)
      have HCK := Lib.hid (of_ok M2 HO2.out A' A2' n' c' m' c2' W.heap.size w9 hm9 HB9.out.size)
      clear hw2 hm9
      go_wp2_with fail
      clear e0 e1 e2
      refine HCK.out.mono ?_
      rintro e w10 ⟨⟨A7, k7, A8, k8, rfl, hm10⟩, hb10⟩
      have h10 := At3.new w10 M2.sg A7 M2.least.n k7 A8 M2.least.n k8
      have hb11 := hb10.alloc hb10.size (.cells #[S M2.sg, .slice A7 M2.least.n k7, .slice A8 M2.least.n k8] 25)
      have hm11 := hm10.below ((Below.refl w10.heap.size w10).alloc (Nat.le_refl _) (.cells #[S M2.sg, .slice A7 M2.least.n k7, .slice A8 M2.least.n k8] 25))
      have hz10 := hb10.size
      clear hb10 hm10 HCK
      have hx11 := HX9.out.1.below hb11 HX9.out.2
      have ha11 := And.intro (HA9.out.1.below hb11 HA9.out.1.lt) (HA9.out.2.below hb11 HA9.out.2.lt)
      obtain ⟨y0, y1, y2⟩ := ha11.1.cells
      obtain ⟨e0, e1, e2⟩ := ha11.2.cells
      generalize hw11 : w10.alloc (.cells #[S M2.sg, .slice A7 M2.least.n k7, .slice A8 M2.least.n k8] 25) = w11 at *
      have hz11 : w11.heap.size = w10.heap.size + 1 := by rw [← hw11]; simp
      have HY := Lib.hid h10
      have HX11 := Lib.hid (And.intro hx11 hx11.lt)
      have HB11 := Lib.hid (HB9.out.trans (hb11.mono HB9.out.size))
      have HM11 := Lib.hid (hm11.more (B' := w11.heap.size) (by omega))
      have HM511 := Lib.hid ((HM59.out.below hb11).more (B' := w11.heap.size) (by omega))
      clear h10 hx11 ha11 hb11 hm11 hz10 hz11 HX9 HA9 HM59
      by_cases hs : M.sg = M2.sg
      · have HS := Lib.hid hs
        have HSA := Lib.hid (same_any M M2 A A2 A' A2' n c m c2 n' c' m' c2' W.heap.size w11 (HM.out.1.below HB11.out) (HM.out.2.below HB11.out) HB11.out.size)
        have hse := same_mc HO.out HO2.out hs
        rw [hse.1, hse.2, show errV 0 = .nilIface from rfl] at HSA
        rw [← hs] at e0 HSA
        clear hs hse
        go_wp2_with fail
        clear y0 y1 y2 e0 e1 e2 hw11
        refine HSA.out.mono ?_
        rintro e w12 ⟨rfl, hb12⟩
        have hx12 := HX11.out.1.below hb12 HX11.out.2
        have hy12 := HY.out.below hb12 HY.out.lt
        have hm512 := (HM511.out.below hb12).more hb12.size
        have hm12 := (HM11.out.below hb12).more hb12.size
        have HB12 := Lib.hid (HB11.out.trans (hb12.mono HB11.out.size))
        clear hb12
        obtain ⟨d0, d1, d2⟩ := hx12.cells
        obtain ⟨g0, g1, g2⟩ := hy12.cells
        have HSM := Lib.hid (smM_any M.least M2.least A3 A4 A7 A8 M.least.n k3 M.least.n k4 M2.least.n k7 M2.least.n k8 w12.heap.size w12 hm512 hm12 (Nat.le_refl _) HN1.out HN1.out HN2.out)
        clear hx12 hy12 hm512 hm12
        go_wp2_with fail
        clear d0 d1 d2 g0 g1 g2
        refine HSM.out.mono ?_
        rintro e w13 ⟨rfl, hb13⟩
        have HB13 := Lib.hid (HB12.out.trans (hb13.mono HB12.out.size))
        clear hb13 HSM
        by_cases hl : M.least = M2.least
        · rw [decide_eq_true hl]
          clear hl
          go_wp2_with fail
          go_ret
          exact ⟨rfl, HB13.out⟩
        · rw [decide_eq_false hl]
          clear hl
          go_wp2_with fail
          go_ret
          exact ⟨rfl, HB13.out⟩
      · have hd : (M.sg == M2.sg) = false := by simp [hs]
        clear hs
        go_wp2_with fail
        go_ret
        exact ⟨rfl, HB11.out⟩
    · have HW2 := Lib.hid hw2
      have HCK := Lib.hid (of_err M2 A' A2' n' c' m' c2' W.heap.size w9 hm9 HB9.out.size hw2)
      clear hw2 hm9
      go_wp2_with fail
      clear e0 e1 e2
      refine HCK.out.mono ?_
      rw [err_ne HW2.out]
      rintro e w10 ⟨rfl, hb10⟩
      have h4 := At3.new w10 [] none 0 0 none 0 0
      obtain ⟨b0, b1, b2⟩ := h4.cells
      have HB10 := Lib.hid ((HB9.out.trans (hb10.mono HB9.out.size)).alloc (by have := hb10.size; have := HB9.out.size; omega) (.cells #[S [], .slice none 0 0, .slice none 0 0] 25))
      clear hb10 HCK h4
      go_wp2_with fail
      go_ret
      exact ⟨rfl, HB10.out⟩
  · have HW := Lib.hid hw
    have HCK := Lib.hid (of_err M A A2 n c m c2 W.heap.size w3 hm3 HB3.out.size hw)
    clear hw hm3
    go_wp2_with fail
    clear a0 a1 a2
    refine HCK.out.mono ?_
    rw [err_ne HW.out]
    rintro e w4 ⟨rfl, hb4⟩
    have h4 := At3.new w4 [] none 0 0 none 0 0
    obtain ⟨b0, b1, b2⟩ := h4.cells
    have HB4 := Lib.hid ((HB3.out.trans (hb4.mono HB3.out.size)).alloc (by have := hb4.size; have := HB3.out.size; omega) (.cells #[S [], .slice none 0 0, .slice none 0 0] 25))
    clear hb4 HCK h4
    go_wp2_with fail
    go_ret
    exact ⟨rfl, HB4.out⟩
end Go.Proofs.Ytfglajddibjnjaa
