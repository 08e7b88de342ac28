/- The law DeskLines: its walk. Condition: as of Run. -/
import Derived.Test.YteoofkinmilckaaGreatDoorDeskG
namespace Go.Proofs.YteoofkinmilckaaGreatDoor
open Go.RowKit Go.Shelf IntWalk
attribute [local go_sem] byte_at str_app
attribute [local go_sem ↓] Go.wp_at_zero Go.wp_at_succ

/-- The lines that end among a text's first i bytes. -/
def lnN (T : List UInt8) : Nat → Nat
  | 0 => 0
  | i + 1 => lnN T i + (if bu T i = 10 ∨ i + 1 = T.length then 1 else 0)
theorem lnN_le (T : List UInt8) : ∀ i, lnN T i ≤ i
  | 0 => Nat.le_refl _
  | i + 1 => by
    have := lnN_le T i
    unfold lnN
    split <;> omega
theorem lnN_cons (c : UInt8) {l : List UInt8} (hl : l ≠ []) : ∀ i, lnN (c :: l) (i + 1) = (if c = 10 then 1 else 0) + lnN l i
  | 0 => by
    have h1 := List.length_pos_iff.2 hl
    show 0 + (if bu (c :: l) 0 = 10 ∨ 0 + 1 = (c :: l).length then 1 else 0) = _ + 0
    have e : bu (c :: l) 0 = c := rfl
    rw [e]
    by_cases hc : c = 10
    · rw [if_pos (.inl hc), if_pos hc]
    · rw [if_neg (fun h => h.elim hc (fun h => by rw [List.length_cons] at h; omega)), if_neg hc]
  | i + 1 => by
    have ih := lnN_cons c hl i
    have e : bu (c :: l) (i + 1) = bu l i := rfl
    rw [show lnN (c :: l) (i + 1 + 1) = lnN (c :: l) (i + 1) + (if bu (c :: l) (i + 1) = 10 ∨ i + 1 + 1 = (c :: l).length then 1 else 0) from rfl, ih, e,
      show lnN l (i + 1) = lnN l i + (if bu l i = 10 ∨ i + 1 = l.length then 1 else 0) from rfl]
    have e2 : (i + 1 + 1 = (c :: l).length) ↔ (i + 1 = l.length) := by rw [List.length_cons]; omega
    by_cases h : bu l i = 10 ∨ i + 1 = l.length
    · rw [if_pos h, if_pos (show bu l i = 10 ∨ i + 1 + 1 = (c :: l).length from h.imp id e2.2)]; omega
    · rw [if_neg h, if_neg (show ¬ (bu l i = 10 ∨ i + 1 + 1 = (c :: l).length) from fun h' => h (h'.imp id e2.1))]; omega
theorem lnN_all : ∀ T : List UInt8, lnN T T.length = (chunks T).length := by
  intro T
  induction T with
  | nil => rfl
  | cons c l ih =>
    by_cases hl : l = []
    · subst hl
      show 0 + (if bu [c] 0 = 10 ∨ 0 + 1 = [c].length then 1 else 0) = _
      rw [if_pos (.inr rfl)]
      unfold chunks
      split
      · simp [chunks]
      · simp [chunks]
    · rw [List.length_cons, lnN_cons c hl, ih, show chunks (c :: l) = if c = 10 then [c] :: chunks l else match chunks l with
        | [] => [[c]]
        | x :: xs => (c :: x) :: xs from rfl]
      by_cases hc : c = 10
      · rw [if_pos hc, if_pos hc]; simp; omega
      · rw [if_neg hc, if_neg hc]
        cases hq : chunks l with
        | nil =>
          exfalso
          have : chunks l ≠ [] := by
            cases l with
            | nil => exact absurd rfl hl
            | cons d l =>
              unfold chunks
              split
              · simp
              · split <;> simp
          exact this hq
        | cons x xs => simp
theorem count_take {X : List UInt8} {i : Nat} (hi : i < X.length) : (X.take (i + 1)).count 10 = (X.take i).count 10 + (if bu X i = 10 then 1 else 0) := by
  rw [take_succ_bu hi, List.count_append]
  congr 1
  by_cases h : bu X i = 10
  · rw [if_pos h, h]; rfl
  · rw [if_neg h]; exact List.count_eq_zero.2 (by simpa using fun e : (10 : UInt8) = bu X i => h e.symm)

set_option maxRecDepth 100000 in
set_option maxHeartbeats 8000000 in
theorem deskLines_walk (w : World) (T : List UInt8) (h9 : T.length ≤ 9223372036854775807) (ht : TG w) (hm : ML w) (he : EV w) (hg : HG w) :
    Calls Tryz.prog 7 #[S T] w fun e w' => e = .returned (.bool true) ∧ Below w.heap.size w w' := by
  have HV := Lib.hid (show Vars w from ⟨ht, hm, he, hg⟩)
  have HN := Lib.hid (run_any [112, 117, 116, 32, 48, 32, 97, 10, 10, 98] w (by decide) HV.out)
  rw [runD_lines] at HN
  have HRX := Lib.hid (fun W (hb : Below w.heap.size w W) => run_any T W h9 (HV.out.below hb))
  clear ht hm he hg
  by_cases h3 : 3000 < T.length
  · have h3' : (3000 : Int) < (T.length : Int) := by omega
    rw [show runD T = tooLong from if_pos h3] at HRX
    clear h3
    go_enter Tryz.func7, Tryz.ntmps7
    go_wp2_with fail
    refine HN.out.mono ?_
    rintro e w1 ⟨rfl, hb1⟩
    have HB1 := Lib.hid hb1
    clear hb1
    go_wp2_with fail
    refine (HRX.out _ HB1.out).mono ?_
    rintro e w2 ⟨rfl, hb2⟩
    have HB2 := Lib.hid (HB1.out.trans (hb2.mono HB1.out.size))
    clear hb2
    rw [show tooLong = [116, 111, 111, 32, 108, 111, 110, 103, 10] from rfl]
    go_wp2_with fail
    go_ret
    exact ⟨rfl, HB2.out⟩
  have h3' : ¬ (3000 : Int) < (T.length : Int) := by omega
  have HLN := Lib.hid (lnN_all T)
  have hrd : runD T = (sesD (chunks T)).2 := if_neg h3
  have HCN : Hid ((runD T).count 10 = (chunks T).length) := Lib.hid (by rw [hrd]; exact (sesD_inv (chunks T)).2.2)
  have HEN : Hid (runD T = [] ∨ bu (runD T) ((runD T).length - 1) = 10) := Lib.hid (by rw [hrd]; exact out_end (chunks T))
  have HXL := Lib.hid (runD_len T)
  clear hrd
  generalize runD T = X at *
  generalize (chunks T).length = C at *
  go_enter Tryz.func7, Tryz.ntmps7
  go_wp2_with fail
  refine HN.out.mono ?_
  rintro e w1 ⟨rfl, hb1⟩
  have HB1 := Lib.hid hb1
  clear hb1
  go_wp2_with fail
  refine (HRX.out _ HB1.out).mono ?_
  rintro e w2 ⟨rfl, hb2⟩
  have HB2 := Lib.hid (HB1.out.trans (hb2.mono HB1.out.size))
  clear hb2
  go_wp2_with fail
  go_loopg [5, 6] T.length (fun f cv iv wr => ∃ i : Nat, i + f = T.length ∧ iv = .int .i64 (i : Int) ∧ cv = .int .i64 (lnN T i : Int) ∧ wr = w2)
  case atStart => exact ⟨0, by omega, rfl, rfl, rfl⟩
  case round =>
    obtain ⟨i, hif, rfl, rfl, hw⟩ := hrel
    obtain rfl : w2 = wr := hw.symm
    by_cases hlt : i < T.length
    · obtain ⟨f, rfl⟩ : ∃ f, gk = f + 1 := ⟨gk - 1, by omega⟩
      have p1 : (i : Int) < (T.length : Int) := by omega
      have p2 := lnN_le T i
      have hs : lnN T (i + 1) = lnN T i + (if bu T i = 10 ∨ i + 1 = T.length then 1 else 0) := rfl
      generalize lnN T i = n at *
      have p3 : IntKind.i64.wrap ((n : Int) + 1) = (n : Int) + 1 := i64_in _ (by omega)
      have p4 : IntKind.i64.wrap ((i : Int) + 1) = (i : Int) + 1 := i64_in _ (by omega)
      have p5 : IntKind.i64.wrap ((T.length : Int) - 1) = (T.length : Int) - 1 := i64_in _ (by omega)
      by_cases hb : bu T i = 10
      · have q2 : (((bu T i).toNat : Int) == 10) = true := by rw [hb]; rfl
        rw [if_pos (.inl hb)] at hs
        have HS := Lib.hid hs
        clear hs hb
        go_wp2_with fail
        go_roundg f
        case measure => omega
        case rel => exact ⟨i + 1, by omega, by simp, by rw [HS.out]; simp, rfl⟩
      · have q2 : (((bu T i).toNat : Int) == 10) = false := by simp; intro h; exact hb (UInt8.toNat.inj (by show (bu T i).toNat = 10; omega))
        by_cases hl : i + 1 = T.length
        · have q3 : ((i : Int) == (T.length : Int) - 1) = true := by simp; omega
          rw [if_pos (.inr hl)] at hs
          have HS := Lib.hid hs
          clear hs hb hl
          go_wp2_with fail
          go_roundg f
          case measure => omega
          case rel => exact ⟨i + 1, by omega, by simp, by rw [HS.out]; simp, rfl⟩
        · have q3 : ((i : Int) == (T.length : Int) - 1) = false := by simp; omega
          rw [if_neg (by rintro (h | h) <;> contradiction)] at hs
          have HS := Lib.hid hs
          clear hs hb hl
          go_wp2_with fail
          go_roundg f
          case measure => omega
          case rel => exact ⟨i + 1, by omega, by simp, by rw [HS.out]; simp, rfl⟩
    · obtain rfl : i = T.length := by omega
      rw [HLN.out]
      have p1 : ¬ (T.length : Int) < (T.length : Int) := by omega
      have hXl := HXL.out
      go_wp2_with fail
      go_loopg [7, 8] X.length (fun f cv iv wr => ∃ j : Nat, j + f = X.length ∧ iv = .int .i64 (j : Int) ∧ cv = .int .i64 ((X.take j).count 10 : Int) ∧ wr = w2)
      case atStart => exact ⟨0, by omega, rfl, by simp, rfl⟩
      case round =>
        obtain ⟨j, hjf, rfl, rfl, hw⟩ := hrel
        obtain rfl : w2 = wr := hw.symm
        by_cases hlt : j < X.length
        · obtain ⟨f, rfl⟩ : ∃ f, gk = f + 1 := ⟨gk - 1, by omega⟩
          have p1 : (j : Int) < (X.length : Int) := by omega
          have hs := count_take hlt
          have p2 : (X.take j).count 10 ≤ (X.take j).length := List.count_le_length
          rw [List.length_take] at p2
          generalize (X.take j).count 10 = n at *
          have p3 : IntKind.i64.wrap ((n : Int) + 1) = (n : Int) + 1 := i64_in _ (by omega)
          have p4 : IntKind.i64.wrap ((j : Int) + 1) = (j : Int) + 1 := i64_in _ (by omega)
          by_cases hb : bu X j = 10
          · have q2 : (((bu X j).toNat : Int) == 10) = true := by rw [hb]; rfl
            rw [if_pos hb] at hs
            have HS := Lib.hid hs
            clear hs hb
            go_wp2_with fail
            go_roundg f
            case measure => omega
            case rel => exact ⟨j + 1, by omega, by simp, by rw [HS.out]; simp, rfl⟩
          · have q2 : (((bu X j).toNat : Int) == 10) = false := by simp; intro h; exact hb (UInt8.toNat.inj (by show (bu X j).toNat = 10; omega))
            rw [if_neg hb] at hs
            have HS := Lib.hid hs
            clear hs hb
            go_wp2_with fail
            go_roundg f
            case measure => omega
            case rel => exact ⟨j + 1, by omega, by simp, by rw [HS.out]; simp, rfl⟩
        · obtain rfl : j = X.length := by omega
          rw [List.take_length, HCN.out]
          have p1 : ¬ (X.length : Int) < (X.length : Int) := by omega
          rcases HEN.out with h | h
          · subst h
            go_wp2_with fail
            go_ret
            exact ⟨rfl, HB2.out⟩
          · by_cases h0 : X.length = 0
            · have q0 : ((X.length : Int) == 0) = true := by rw [beq_iff_eq]; omega
              clear h h0
              go_wp2_with fail
              go_ret
              exact ⟨rfl, HB2.out⟩
            · have q0 : ((X.length : Int) == 0) = false := by rw [beq_eq_false_iff_ne]; omega
              have r1 : IntKind.i64.wrap ((X.length : Int) - 1) = ((X.length - 1 : Nat) : Int) := by rw [i64_in _ (by omega)]; omega
              have r2 : X.length - 1 < X.length := by omega
              have r3 : ((X.length - 1 : Nat) : Int) < (X.length : Int) := by omega
              have q2 : (((bu X (X.length - 1)).toNat : Int) == 10) = true := by rw [h]; rfl
              clear h h0
              go_wp2_with fail
              go_ret
              exact ⟨rfl, HB2.out⟩
end Go.Proofs.YteoofkinmilckaaGreatDoor
