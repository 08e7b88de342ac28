/- The document's Signs: its walk. No condition. -/
import Derived.Test.YtpimpfejaookeaaDoorRegN
namespace Go.Proofs.YtpimpfejaookeaaDoor
open Go.RowKit IntWalk
attribute [local go_sem] byte_at str_app

/-- The first j letters' part of the signs. -/
def sgsP (l : List UInt8) (j : Nat) : List UInt8 := (List.range j).filterMap fun i => if UInt8.ofNat (97 + i) ∈ l then some (UInt8.ofNat (97 + i)) else none
theorem sgsP_step (l : List UInt8) (j : Nat) : sgsP l (j + 1) = if UInt8.ofNat (97 + j) ∈ l then sgsP l j ++ [UInt8.ofNat (97 + j)] else sgsP l j := by
  unfold sgsP
  rw [List.range_succ, List.filterMap_append]
  by_cases h : UInt8.ofNat (97 + j) ∈ l
  · rw [if_pos h]; congr 1; rw [List.filterMap_cons]; simp only [if_pos h]; rfl
  · rw [if_neg h]; rw [List.filterMap_cons]; simp only [if_neg h]; rw [List.filterMap_nil, List.append_nil]
theorem sgsP_len (l : List UInt8) (j : Nat) : (sgsP l j).length ≤ j := by
  unfold sgsP
  refine Nat.le_trans (List.length_filterMap_le _ _) ?_
  simp
theorem wrap_b (x : UInt8) : wrap64 (x.toNat : Int) = (x.toNat : Int) := by have := UInt8.toNat_lt x; unfold wrap64; omega
def hasB (s : List UInt8) (c i : Nat) : Bool := (s.take i).any fun x => x.toNat == c
theorem hasB_step {s : List UInt8} {i : Nat} (c : Nat) (h : i < s.length) : hasB s c (i + 1) = (hasB s c i || (bu s i).toNat == c) := by
  unfold hasB
  rw [take_succ_bu h, List.any_append]
  simp
theorem hasB_all (s : List UInt8) (j : Nat) (hj : j < 26) : hasB s (97 + j) s.length = true ↔ UInt8.ofNat (97 + j) ∈ s := by
  unfold hasB
  rw [List.take_length, List.any_eq_true]
  have e : (UInt8.ofNat (97 + j)).toNat = 97 + j := by simp; omega
  constructor
  · rintro ⟨x, hx, h⟩
    have h : x.toNat = 97 + j := by simpa using h
    have : x = UInt8.ofNat (97 + j) := UInt8.toNat_inj.1 (by rw [h, e])
    rw [← this]; exact hx
  · intro h
    exact ⟨_, h, by simpa using e⟩
set_option maxRecDepth 100000 in
set_option maxHeartbeats 2000000 in
theorem signsR_any (s : List UInt8) (w : World) (hl : s.length ≤ 1000) :
    Calls Tryd.prog 12 #[S s] w fun e w' => e = .returned (S (sgs s)) ∧ Below w.heap.size w w' := by
  have HR : Hid (sgs s = sgsP s 26) := Lib.hid rfl
  generalize sgs s = R at *
  go_enter Tryd.func12, Tryd.ntmps12
  go_wp2_with fail
  go_loopg [3, 4] 26 (fun f ov cv wr => ∃ (j : Nat), j + f = 26 ∧ cv = .int .i64 ((97 + j : Nat) : Int) ∧ ov = S (sgsP s j) ∧ Hid (Below w.heap.size w wr))
  case atStart => exact ⟨0, by omega, rfl, rfl, Lib.hid (Below.refl _ _)⟩
  case round =>
    obtain ⟨j, hj, rfl, rfl, HB⟩ := hrel
    by_cases hlt : j < 26
    rotate_left
    · obtain rfl : j = 26 := by omega
      rw [← HR.out]
      have p1 : ¬ ((97 + 26 : Nat) : Int) < 123 := by decide
      go_wp2_with fail
      go_ret
      exact ⟨rfl, HB.out⟩
    obtain ⟨f, rfl⟩ : ∃ f, gk = f + 1 := ⟨gk - 1, by omega⟩
    have hst := sgsP_step s j
    have hsl := sgsP_len s j
    have hall := hasB_all s j hlt
    have p1 : ((97 + j : Nat) : Int) < 123 := by omega
    have p1' : (97 : Int) + (j : Int) < 123 := by omega
    have p3 : IntKind.i64.wrap (((97 + j : Nat) : Int) + 1) = ((97 + (j + 1) : Nat) : Int) := by rw [i64_in _ (by omega)]; omega
    have p3' : IntKind.i64.wrap ((97 : Int) + (j : Int) + 1) = ((97 + (j + 1) : Nat) : Int) := by rw [i64_in _ (by omega)]; omega
    have p5 : (UInt8.ofNat (97 + j)).toNat = 97 + j := by simp; omega
    obtain ⟨C, hC⟩ : ∃ C : Nat, C = 97 + j := ⟨_, rfl⟩
    rw [← hC] at p1 p3 p5 hall hst ⊢
    have p4 : IntKind.u8.wrap (C : Int) = ((UInt8.ofNat C).toNat : Int) := by rw [p5]; unfold IntKind.wrap; simp [IntKind.bits]; omega
    generalize hcb : UInt8.ofNat C = cb at *
    generalize sgsP s j = o at *
    have p7 : ¬ 9223372036854775807 < o.length + 1 := by omega
    have HST := Lib.hid hst; have HAL := Lib.hid hall; have HC := Lib.hid hC; have H3 := Lib.hid p3
    clear hst hall hC p5 hcb p1' p3'
    go_wp2_with fail
    go_loopg [5, 6] s.length (fun f bv iv wr' => ∃ (i : Nat) (b : Bool), i + f = s.length ∧ iv = .int .i64 (i : Int) ∧ bv = .bool b ∧ Hid (b = hasB s C i) ∧ wr' = wr)
    case atStart => exact ⟨0, false, by omega, rfl, rfl, Lib.hid rfl, rfl⟩
    case round =>
      obtain ⟨i, b, hif, rfl, rfl, Hb, rfl⟩ := hrel
      by_cases hil : i < s.length
      · obtain ⟨f', rfl⟩ : ∃ f, gk = f + 1 := ⟨gk - 1, by omega⟩
        have r1 : (i : Int) < (s.length : Int) := by omega
        have r2 : (0 : Int) ≤ (i : Int) := by omega
        have r3 : IntKind.i64.wrap ((i : Int) + 1) = (i : Int) + 1 := i64_in _ (by omega)
        have hs := hasB_step C hil
        rw [← Hb.out] at hs
        have HS := Lib.hid hs
        obtain ⟨dn, hd⟩ : ∃ dn, dn = (bu s i).toNat := ⟨_, rfl⟩
        rw [← hd] at HS
        have HD := Lib.hid hd
        clear hd
        clear hs
        cases b
        · by_cases he : dn = C
          · have HS2 : Hid (true = hasB s C (i + 1)) := Lib.hid (by rw [HS.out, he]; simp)
            have HE := Lib.hid he
            clear he
            go_wp2_with fail
            go_roundg f'
            case measure => omega
            case rel => exact ⟨i + 1, true, by omega, by simp, by first | rfl | (have h1 := HD.out; have h2 := HE.out; have e : wrap64 ((bu s i).toNat : Int) = (C : Int) := (by rw [wrap_b]; omega); simp [e]), HS2, rfl⟩
          · have HS2 : Hid (false = hasB s C (i + 1)) := Lib.hid (by rw [HS.out]; simp [he])
            have HE := Lib.hid he
            clear he
            go_wp2_with fail
            go_roundg f'
            case measure => omega
            case rel => exact ⟨i + 1, false, by omega, by simp, by first | rfl | (have h1 := HD.out; have h2 := HE.out; have e : ¬ wrap64 ((bu s i).toNat : Int) = (C : Int) := (by rw [wrap_b]; omega); simp [e]), HS2, rfl⟩
        · have HS2 : Hid (true = hasB s C (i + 1)) := Lib.hid (by rw [HS.out]; rfl)
          go_wp2_with fail
          go_roundg f'
          case measure => omega
          case rel => exact ⟨i + 1, true, by omega, by simp, rfl, HS2, rfl⟩
      · obtain rfl : i = s.length := by omega
        have r1 : ¬ (s.length : Int) < (s.length : Int) := by omega
        cases b
        · have HS : Hid (sgsP s (j + 1) = o) := Lib.hid (by rw [HST.out, if_neg (fun h => by have := HAL.out.2 h; rw [← Hb.out] at this; cases this)])
          have HJ : Hid ((97 + (j + 1) : Nat) = C + 1) := Lib.hid (by have := HC.out; omega)
          go_wp2_with fail
          go_roundg f
          case measure => omega
          case rel => exact ⟨j + 1, by omega, by first | rfl | rw [H3.out], by rw [HS.out], HB⟩
        · have HS : Hid (sgsP s (j + 1) = o ++ [cb]) := Lib.hid (by rw [HST.out, if_pos (HAL.out.1 Hb.out.symm)])
          have hcv : (convert 57 9 (.slice (some ⟨wr.heap.size, 0, none⟩) 1 1)).run Tryd.prog (wr.alloc (.cells #[.int .u8 (cb.toNat : Int)] 5)) = .ok (.string ⟨[cb].toArray⟩) (wr.alloc (.cells #[.int .u8 (cb.toNat : Int)] 5)) :=
            run_convert_bytes_back _ _ _ 5 ⟨wr.heap.size, 0, none⟩ 1 [cb] Tryd.underlying57 Tryd.underlying5 Tryd.underlying9 fun i hi => by
              have : i = 0 := by simpa using hi
              subst this
              rw [Addr.add_lit, cell_of_row _ wr.heap.size 0 _ _ (0, 0) (heap_alloc_new wr _)]
              rfl
          have HB2 := Lib.hid (HB.out.alloc HB.out.size (.cells #[.int .u8 (cb.toNat : Int)] 5))
          go_wp2_with fail
          go_roundg f
          case measure => omega
          case rel => exact ⟨j + 1, by omega, by first | rfl | rw [H3.out], by rw [HS.out], HB2⟩
end Go.Proofs.YtpimpfejaookeaaDoor
