/- package book's number and line, at any text. Condition: internal/strconv.uint64pow10 reads as the library's text lays it; strconv.ErrSyntax, strconv.ErrRange hold an error each; internal/bytealg.MaxLen holds an integer. -/
import Derived.Test.YteoofkinmilckaaGreatDoorBookM
import Derived.Lib.SplitLaws
import Derived.Lib.AtoiAllCases
namespace Go.Proofs.YteoofkinmilckaaGreatDoor
open Go.RowKit IntWalk
attribute [local go_sem] byte_at str_app
attribute [local go_sem ↓] Go.wp_at_zero Go.wp_at_succ

/-- strconv's two errors lie in their variables. -/
def EV (w : World) : Prop := (∃ tp p, w.cell? ⟨2, 0, none⟩ = some (.iface tp p)) ∧ ∃ tp p, w.cell? ⟨3, 0, none⟩ = some (.iface tp p)
theorem EV.below {w w' : World} {B : Nat} (h : EV w) (hb : Below B w w') (h1 : 2 < B) (h2 : 3 < B) : EV w' := by
  obtain ⟨⟨a, b, h3⟩, c, d, h4⟩ := h
  exact ⟨⟨a, b, (hb.cell (p := ⟨2, 0, none⟩) h1).trans h3⟩, c, d, (hb.cell (p := ⟨3, 0, none⟩) h2).trans h4⟩
theorem EV.lt {w : World} (h : EV w) : 2 < w.heap.size ∧ 3 < w.heap.size := by
  obtain ⟨⟨a, b, h3⟩, c, d, h4⟩ := h
  exact ⟨World.block_lt_of_cell? w _ h3, World.block_lt_of_cell? w _ h4⟩
/-- The number that a text spells, as the library writes it. -/
def numO (l : List UInt8) : Option Nat := match Lib.atoiAll l with
  | .ok v => if 0 ≤ v ∧ Lib.itoa v = l then some v.toNat else none
  | _ => none
theorem numO_some {l : List UInt8} {n : Nat} (h : numO l = some n) : l = Lib.decDigits n ∧ n ≤ 9223372036854775807 := by
  unfold numO at h
  cases ha : Lib.atoiAll l with
  | ok v =>
    rw [ha] at h
    simp only [] at h
    by_cases hc : 0 ≤ v ∧ Lib.itoa v = l
    · rw [if_pos hc] at h
      obtain rfl := Option.some.inj h
      have hb := Lib.atoiAll_bounds ha
      refine ⟨?_, by omega⟩
      rw [← Lib.itoa_nonneg, Int.toNat_of_nonneg hc.1]
      exact hc.2.symm
    · rw [if_neg hc] at h; cases h
  | _ => rw [ha] at h; cases h
set_option maxRecDepth 100000 in
set_option maxHeartbeats 1000000 in
theorem number_gen (l : List UInt8) (w : World) (hl : l.length ≤ 100000) (ht : TG w) (he : EV w) :
    Calls Tryz.prog 44 #[S l] w fun e w' => (∃ v, e = .returned (.tuple #[.int .i64 v, .bool (numO l).isSome]) ∧ ∀ n, numO l = some n → v = (n : Int)) ∧ Below w.heap.size w w' := by
  obtain ⟨⟨t1, p1, he1⟩, t2, p2, he2⟩ := he
  cases ha : Lib.atoiAll l with
  | ok v =>
    have hb := Lib.atoiAll_bounds ha
    have HO := Lib.hid (show numO l = if 0 ≤ v ∧ Lib.itoa v = l then some v.toNat else none by unfold numO; rw [ha])
    have HA := Lib.hid (Tryz.strconv_Atoi_ok ⟨l.toArray⟩ (by simp [ByteArray.size]; omega) v (by simpa using ha) w)
    have HI := Lib.hid (fun W (h : TG W) => Tryz.strconv_Itoa v hb.1 hb.2 W h)
    have HT := Lib.hid ht
    clear ht ha he1 he2
    generalize numO l = o at *
    go_enter Tryz.func44, Tryz.ntmps44
    go_wp2_with fail
    refine HA.out.mono ?_
    rintro e w1 ⟨rfl, hw⟩
    have HB1 : Hid (Below w.heap.size w w1) := by
      rcases hw with rfl | ⟨t, rfl⟩
      · exact Lib.hid (Below.refl _ _)
      · exact Lib.hid (Go.Joins.below_bytesWorld w.heap.size w 5 t (Nat.le_refl _))
    clear hw HA
    by_cases h0 : 0 ≤ v
    · go_wp2_with fail
      refine (HI.out _ (HT.out.below HB1.out (Nat.le_refl _))).mono ?_
      rintro e w2 ⟨rfl, k, os, hw2⟩
      have HB2 : Hid (Below w.heap.size w w2) := Lib.hid (by rw [hw2]; exact HB1.out.trans (Lib.below_grow _ w1 HB1.out.size k os))
      have H0 := Lib.hid h0
      clear hw2 h0
      generalize hI : Lib.itoa v = I at *
      clear hI
      by_cases hc : I = l
      · subst hc
        have HO2 : Hid (o = some v.toNat) := Lib.hid (by rw [HO.out, if_pos ⟨H0.out, rfl⟩])
        clear HO
        go_wp2_with fail
        go_ret2
        exact ⟨⟨v, by rw [HO2.out]; simp, fun n hn => by rw [HO2.out] at hn; obtain rfl := Option.some.inj hn; have := H0.out; omega⟩, HB2.out⟩
      · have HO2 : Hid (o = none) := Lib.hid (by rw [HO.out, if_neg (fun h => hc h.2)])
        have hne : (I == l) = false := by simpa using hc
        clear HO hc
        go_wp2_with fail
        go_ret2
        exact ⟨⟨v, by rw [HO2.out]; simp, fun n hn => by rw [HO2.out] at hn; cases hn⟩, HB2.out⟩
    · have HO2 : Hid (o = none) := Lib.hid (by rw [HO.out, if_neg (fun h => h0 h.1)])
      clear HO HI
      go_wp2_with fail
      go_ret2
      exact ⟨⟨v, by rw [HO2.out]; simp, fun n hn => by rw [HO2.out] at hn; cases hn⟩, HB1.out⟩
  | range =>
    have HO := Lib.hid (show numO l = none by unfold numO; rw [ha])
    have HA := Lib.hid (Tryz.strconv_Atoi_range ⟨l.toArray⟩ (by simp [ByteArray.size]; omega) (by simpa using ha) _ w he2 (.inr ⟨_, _, rfl⟩))
    clear ht ha he1 he2
    generalize numO l = o at *
    go_enter Tryz.func44, Tryz.ntmps44
    go_wp2_with fail
    refine HA.out.mono ?_
    rintro e w1 ⟨N, rfl, _, _, hb1⟩
    have HB1 := Lib.hid hb1
    clear hb1 HA
    go_wp2_with fail
    go_ret2
    exact ⟨⟨_, by rw [HO.out]; rfl, fun n hn => by rw [HO.out] at hn; cases hn⟩, HB1.out⟩
  | _ =>
    have HO := Lib.hid (show numO l = none by unfold numO; rw [ha])
    have HA := Lib.hid (Go.Proofs.Any.strconv_Atoi_syntax Tryz.laysC172 ⟨l.toArray⟩ (by simp [ByteArray.size]; omega) (by simpa using ha) _ w he1 (.inr ⟨_, _, rfl⟩))
    clear ht ha he1 he2
    generalize numO l = o at *
    go_enter Tryz.func44, Tryz.ntmps44
    go_wp2_with fail
    refine HA.out.mono ?_
    rintro e w1 ⟨N, rfl, _, _, hb1⟩
    have HB1 := Lib.hid hb1
    clear hb1 HA
    go_wp2_with fail
    go_ret2
    exact ⟨⟨_, by rw [HO.out]; rfl, fun n hn => by rw [HO.out] at hn; cases hn⟩, HB1.out⟩
theorem sumP_le2 (l : List UInt8) : ∀ i, i ≤ 2000 → sumP l i ≤ i * 510000 := by
  intro i
  induction i with
  | zero => intro _; simp [sumP]
  | succ i ih =>
    intro h
    have h1 := ih (by omega)
    have h2 : (i + 1) * (bu l i).toNat ≤ 2000 * 255 := Nat.mul_le_mul h (by have := bu_lt l i; omega)
    simp only [sumP]
    omega
set_option maxRecDepth 100000 in
set_option maxHeartbeats 1000000 in
theorem sum2_any (l : List UInt8) (w : World) (hl : l.length ≤ 2000) :
    Calls Tryz.prog 45 #[S l] w fun e w' => e = .returned (.int .i64 (sumM l : Int)) ∧ Below w.heap.size w w' := by
  obtain ⟨cap, w2, hcv, hB, hz2, hc2⟩ := conv_bytes l w
  have HB := Lib.hid hB; have HC := Lib.hid hc2
  clear hB hz2 hc2
  go_enter Tryz.func45, Tryz.ntmps45
  go_wp2_with fail
  clear hcv
  go_loopg [3, 9] l.length (fun f sv iv wr => ∃ i : Nat, i + f = l.length ∧ iv = .int .i64 (i : Int) ∧ sv = .int .i64 (sumP l i : Int) ∧ wr = w2)
  case atStart => exact ⟨0, by omega, rfl, rfl, rfl⟩
  case round =>
    obtain ⟨i, hif, rfl, rfl, hw⟩ := hrel
    obtain rfl : w2 = wr := hw.symm
    have hb1 := sumP_le2 l i (by omega)
    by_cases hlt : i < l.length
    · obtain ⟨f, rfl⟩ : ∃ f, gk = f + 1 := ⟨gk - 1, by omega⟩
      have hcell := HC.out i hlt
      have h2 : (i + 1) * (bu l i).toNat ≤ 2000 * 255 := Nat.mul_le_mul (by omega) (by have := bu_lt l i; omega)
      have hs : sumP l (i + 1) = sumP l i + (i + 1) * (bu l i).toNat := rfl
      have hm : ((i : Int) + 1) * ((bu l i).toNat : Int) = (((i + 1) * (bu l i).toNat : Nat) : Int) := by rw [Int.natCast_mul]; rfl
      have HS := Lib.hid hs
      generalize (i + 1) * (bu l i).toNat = m at *
      generalize sumP l i = n at *
      have hn : n ≤ 1020000000 := by have : i * 510000 ≤ 2000 * 510000 := Nat.mul_le_mul_right _ (by omega); omega
      have e1 : (0 : Int) ≤ ((i : Int) + 1) * ((bu l i).toNat : Int) := by rw [hm]; omega
      have e2 : ((i : Int) + 1) * ((bu l i).toNat : Int) ≤ 510000 := by rw [hm]; omega
      have HM := Lib.hid hm
      clear hs hb1 hm
      go_wp2_with fail
      go_roundg f
      case measure => omega
      case rel =>
        have k1 : wrap64 ((bu l i).toNat : Int) = ((bu l i).toNat : Int) := wrap64_in _ (by have := bu_lt l i; omega)
        have k2 : wrap64 (m : Int) = (m : Int) := wrap64_in _ (by omega)
        have k3 : wrap64 ((n : Int) + (m : Int)) = (n : Int) + (m : Int) := wrap64_in _ (by omega)
        exact ⟨i + 1, by omega, by simp, by rw [HS.out]; congr 1; rw [k1, HM.out, k2, k3]; omega, rfl⟩
    · obtain rfl : i = l.length := by omega
      have HS : Hid (sumM l = sumP l l.length % 9973) := Lib.hid rfl
      generalize sumP l l.length = n at *
      go_wp2_with fail
      go_ret
      exact ⟨by rw [HS.out]; simp, HB.out⟩
end Go.Proofs.YteoofkinmilckaaGreatDoor
