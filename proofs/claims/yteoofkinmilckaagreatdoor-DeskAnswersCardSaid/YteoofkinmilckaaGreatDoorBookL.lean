/- The laws' put, bookFact; the law BookBack. Condition: internal/strconv.uint64pow10, errors.errorType read as the library's text lays them. -/
import Derived.Test.YteoofkinmilckaaGreatDoorBookS
namespace Go.Proofs.YteoofkinmilckaaGreatDoor
open Go.RowKit IntWalk
attribute [local go_sem] byte_at str_app
attribute [local go_sem ↓] Go.wp_at_zero Go.wp_at_succ

theorem TG.lt {w : World} (h : TG w) : 4 < w.heap.size := by
  unfold TG Lib.TabIs World.var? at h
  rw [tgG] at h
  simp only [Option.bind_some] at h
  rcases Nat.lt_or_ge 4 w.heap.size with hlt | hge
  · exact hlt
  · simp [Array.getElem?_eq_none hge] at h
/-- No foreign blocks. -/
abbrev nF : Nat → Option Obj := fun _ => none
/-- The book behind the first k steps. -/
def stS (L : List Int) (W : List (List UInt8)) : Nat → BS
  | 0 => ⟨[], [], 0⟩
  | k + 1 => (stepS (stS L W k) (gi L (2 * k)) (gi L (2 * k + 1)) (li W k)).2
theorem stS_small (L : List Int) (W : List (List UInt8)) (k : Nat) : Smalls (stS L W k) := by
  induction k with
  | zero => exact ⟨by simp [stS], by simp [stS], by simp [stS]⟩
  | succ k ih => exact stepS_small ih _ _ _
/-- How many steps are done. -/
def putK (n m : Nat) : Nat := min 70 (min m (n / 2))

set_option maxRecDepth 100000 in
set_option maxHeartbeats 2000000 in
theorem put_all (F : Nat → Option Obj) (w : World) (A A2 : Option Addr) (n c m c2 : Nat) (L : List Int) (W : List (List UInt8)) (ht : TG w)
    (hL : Ints w w.heap.size A n L) (hW : Strs w w.heap.size A2 m W) (hW9 : ∀ x ∈ W, x.length ≤ 9223372036854775807) (hF : ∀ k o, F k = some o → w.heap[k]? = some o) :
    Calls Tryz.prog 16 #[.slice A n c, .slice A2 m c2] w fun e w' => e = .returned (.pointer (some ⟨w.heap.size, 0, none⟩)) ∧ Bks F w.heap.size w.heap.size (stS L W (putK n m)) w' ∧ Below w.heap.size w w' := by
  have HL := Lib.hid hL; have HW := Lib.hid hW; have HW9 := Lib.hid hW9; have HT := Lib.hid ht
  clear hL hW hW9 ht
  have HK : Hid (putK n m = min 70 (min m (n / 2))) := Lib.hid rfl
  generalize putK n m = K at *
  go_enter Tryz.func16, Tryz.ntmps16
  go_wp2_with fail
  refine (new_any F w hF).mono ?_
  rintro e w1 ⟨rfl, hk1, hb1⟩
  have HK1 := Lib.hid hk1; have HB1 := Lib.hid hb1
  clear hk1 hb1
  go_wp2_with fail
  go_loopg [6] K (fun f iv wr => ∃ k : Nat, k + f = K ∧ iv = .int .i64 (k : Int) ∧ Bks F w.heap.size w.heap.size (stS L W k) wr ∧ Below w.heap.size w wr)
  case atStart => exact ⟨0, by omega, rfl, HK1.out, HB1.out⟩
  case round =>
    obtain ⟨k, hkf, rfl, hbk, hB⟩ := hrel
    have hKd := HK.out
    have HBK := Lib.hid hbk; have HB := Lib.hid hB
    clear hbk hB HK1 HB1
    have g1 : IntKind.i64.wrap (2 * (k : Int)) = 2 * (k : Int) := i64_in _ (by omega)
    have g2 : IntKind.i64.wrap (2 * (k : Int) + 1) = 2 * (k : Int) + 1 := i64_in _ (by omega)
    have g3 : IntKind.i64.wrap ((k : Int) + 1) = (k : Int) + 1 := i64_in _ (by omega)
    by_cases hi : k < K
    · obtain ⟨f', rfl⟩ : ∃ f, gk = f + 1 := ⟨gk - 1, by omega⟩
      have d1 : (k : Int) < (m : Int) := by omega
      have d2 : 2 * (k : Int) + 1 < (n : Int) := by omega
      have d3 : (k : Int) < 70 := by omega
      have d1' : k < m := by omega
      have d3' : k < 70 := by omega
      have HS := Lib.hid (step_any F w.heap.size w.heap.size (stS L W k) wr A A2 n c m c2 k L W HBK.out (HT.out.below HB.out (Nat.le_refl _)) (stS_small L W k) HB.out.size HT.out.lt (HL.out.below HB.out) (HW.out.below HB.out) HW9.out d1' (by omega) d3')
      clear hKd
      go_wp2_with fail
      refine HS.out.mono ?_
      rintro e w3 ⟨rfl, hb3, hk3⟩
      have HF := Lib.hid (show Bks F w.heap.size w.heap.size (stS L W (k + 1)) w3 from hk3)
      have HB3 := Lib.hid (HB.out.trans hb3)
      clear hb3 hk3 HS
      go_wp2_with fail
      go_roundg f'
      case measure => omega
      case rel => exact ⟨k + 1, by omega, by simp, HF.out, HB3.out⟩
    · obtain rfl : k = K := by omega
      have HD := Lib.hid hKd
      by_cases c1 : (k : Int) < (m : Int)
      · by_cases c2' : 2 * (k : Int) + 1 < (n : Int)
        · have c3 : ¬ (k : Int) < 70 := by omega
          have c1' : k < m := by omega
          have c3' : ¬ k < 70 := by omega
          clear hKd
          go_wp2_with fail
          go_ret
          exact ⟨rfl, HBK.out, HB.out⟩
        · have c1' : k < m := by omega
          clear hKd
          go_wp2_with fail
          go_ret
          exact ⟨rfl, HBK.out, HB.out⟩
      · have c1' : ¬ k < m := by omega
        clear hKd
        go_wp2_with fail
        go_ret
        exact ⟨rfl, HBK.out, HB.out⟩

/-! The closed fact. -/
theorem ita (i : Nat) (h : i < 10) : Lib.itoa (i : Int) = [UInt8.ofNat (48 + i)] := by rw [Lib.itoa_nonneg, Lib.decDigits_one h]
def fact0 : BS := ⟨[], [], 0⟩
def fact1 : BS := (putS fact0 0 [97, 99]).2
def fact2 : BS := (putS fact1 1 [98]).2
theorem fact_e1 : (putS fact0 0 [97, 99]).1 = 0 := by decide
theorem fact1_now : fact1.now = [97, 99] := by
  unfold fact1 putS; rw [if_pos (by decide)]; decide
theorem fact1_many : fact1.many = 1 := by
  unfold fact1 putS; rw [if_pos (by decide)]; decide
theorem fact1_txt : fact1.txt = [112, 32, 48, 32, 97, 99] ++ [32] ++ Lib.itoa (sumM [112, 32, 48, 32, 97, 99] : Int) ++ [10] := by
  unfold fact1 putS; rw [if_pos (by decide)]
  show [] ++ downM (putL 0 [97, 99]) = _
  have : putL 0 [97, 99] = [112, 32, 48, 32, 97, 99] := by unfold putL; rw [ita 0 (by decide)]; rfl
  rw [this]; rfl
theorem fact_e2 : (putS fact1 1 [98]).1 = 0 := by
  show putE fact1.now fact1.many 1 [98] = 0
  rw [fact1_now, fact1_many]; decide
theorem fact2_now : fact2.now = [97, 98, 99] := by
  unfold fact2 putS
  rw [if_pos (by rw [fact1_now, fact1_many]; decide)]
  show putN fact1.now 1 [98] = _
  rw [fact1_now]; decide
theorem fact2_txt : ∃ r, fact2.txt = [112, 32, 48, 32, 97, 99, 32] ++ r ∧ 1 ≤ r.length ∧ r.length ≤ 100000 := by
  obtain ⟨x1, x2, x3⟩ := putS_small (putS_small (s := fact0) ⟨by decide, by decide, by decide⟩ 0 [97, 99]) 1 [98]
  have x3' : fact2.txt.length ≤ fact2.many * 80 := x3
  have x2' : fact2.many ≤ 60 := x2
  refine ⟨Lib.itoa (sumM [112, 32, 48, 32, 97, 99] : Int) ++ [10] ++ downM (putL 1 [98]), ?_, ?_, ?_⟩
  · unfold fact2 putS
    rw [if_pos (by rw [fact1_now, fact1_many]; decide)]
    show fact1.txt ++ downM (putL 1 [98]) = _
    rw [fact1_txt]; simp
  · simp only [List.length_append, List.length_cons, List.length_nil]; omega
  · have e : fact2.txt = fact1.txt ++ downM (putL 1 [98]) := by unfold fact2 putS; rw [if_pos (by rw [fact1_now, fact1_many]; decide)]; rfl
    rw [e, fact1_txt] at x3'
    simp only [List.length_append, List.length_cons, List.length_nil] at x3' ⊢; omega

set_option maxRecDepth 100000 in
set_option maxHeartbeats 2000000 in
theorem bookFact_any (w : World) (ht : TG w) :
    Calls Tryz.prog 15 #[] w fun e w' => e = .returned (.bool true) ∧ Below w.heap.size w w' := by
  have HT := Lib.hid ht
  clear ht
  obtain ⟨r, hr, hr1, hr9⟩ := fact2_txt
  have HR := Lib.hid hr
  clear hr
  go_enter Tryz.func15, Tryz.ntmps15
  go_wp2_with fail
  refine (new_any nF w (fun _ _ h => by cases h)).mono ?_
  rintro e w1 ⟨rfl, hk1, hb1⟩
  have HK1 := Lib.hid hk1; have HB1 := Lib.hid hb1
  have HT1 := Lib.hid (HT.out.below hb1 (Nat.le_refl _))
  clear hk1 hb1
  go_wp2_with fail
  refine (put_s nF w.heap.size w.heap.size fact0 [97, 99] 0 w1 HK1.out HT1.out ⟨by decide, by decide, by decide⟩ (by decide) HB1.out.size HT.out.lt).mono ?_
  rintro e w2 ⟨rfl, hb2, hk2⟩
  have HB2 := Lib.hid (HB1.out.trans hb2)
  have HK2 := Lib.hid (show Bks nF w.heap.size w.heap.size fact1 w2 from hk2)
  have HT2 := Lib.hid (HT.out.below HB2.out (Nat.le_refl _))
  clear hb2 hk2 HK1 HB1 HT1
  rw [fact_e1, show errV 0 = .nilIface from rfl]
  go_wp2_with fail
  refine (put_s nF w.heap.size w.heap.size fact1 [98] 1 w2 HK2.out HT2.out (putS_small (s := fact0) ⟨by decide, by decide, by decide⟩ 0 [97, 99]) (by decide) HB2.out.size HT.out.lt).mono ?_
  rintro e w3 ⟨rfl, hb3, hk3⟩
  have HB3 := Lib.hid (HB2.out.trans hb3)
  have HK3 := Lib.hid (show Bk nF w.heap.size w.heap.size [97, 98, 99] ([112, 32, 48, 32, 97, 99, 32] ++ r) fact2.many w3 by have h : Bks nF w.heap.size w.heap.size fact2 w3 := hk3; unfold Bks at h; rw [fact2_now, HR.out] at h; exact h)
  clear hb3 hk3 HK2 HB2 HT2
  rw [fact_e2, show errV 0 = .nilIface from rfl]
  go_wp2_with fail
  refine (now_any _ _ _ _ _ _ _ HK3.out).mono ?_
  rintro e w' ⟨rfl, rfl⟩
  go_wp2_with fail
  refine (text_any _ _ _ _ _ _ _ HK3.out (by simp)).mono ?_
  rintro e w4 ⟨rfl, hk4, hb4⟩
  have HK4 := Lib.hid hk4
  have HB4 := Lib.hid (HB3.out.trans hb4)
  clear hk4 hb4 HK3 HB3
  have l1 : ([112, 32, 48, 32, 97, 99, 32] ++ r).length = r.length + 7 := by simp
  have l2 : (7 : Int) < (r.length : Int) + 7 := by omega
  generalize hq : [112, 32, 48, 32, 97, 99, 32] ++ r = q at *
  have HQ := Lib.hid hq
  clear hq
  go_wp2_with fail
  refine (text_any _ _ _ _ _ _ _ HK4.out (by rw [← HQ.out]; simp)).mono ?_
  rintro e w5 ⟨rfl, hk5, hb5⟩
  have HB5 := Lib.hid (HB4.out.trans hb5)
  clear hk5 hb5 HK4 HB4
  have hx := str_to q 7
  have ht : q.take 7 = [112, 32, 48, 32, 97, 99, 32] := by rw [← HQ.out]; simp
  rw [ht] at hx
  have l3 : (7 : Int) ≤ (r.length : Int) + 7 := by omega
  go_wp2_with fail
  go_ret
  exact ⟨rfl, HB5.out⟩
end Go.Proofs.YteoofkinmilckaaGreatDoor
