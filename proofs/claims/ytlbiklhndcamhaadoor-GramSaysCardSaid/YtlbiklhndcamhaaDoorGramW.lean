/- The walks over package gram's small functions, and words for rules and masks in memory. -/
import Derived.Test.YtlbiklhndcamhaaDoorWords
import Derived.Test.YtlbiklhndcamhaaDoorGramM
import Derived.Lib.Strings
import Derived.IntWalk
import Derived.Test.YtlbiklhndcamhaaDoorAs
namespace Go.Proofs.YtlbiklhndcamhaaDoor
open Go.RowKit GramM IntWalk
attribute [local go_sem] byte_at str_app
abbrev S (l : List UInt8) : Value := .string ⟨l.toArray⟩

theorem Nat.cast_pow_two (n : Nat) : ((2 ^ n : Nat) : Int) = (2 : Int) ^ n := by simp
theorem ofInt32 (a : Nat) (h : a < 2 ^ 32) : (BitVec.ofInt 32 (a : Int)).toNat = a := by
  rw [BitVec.toNat_ofInt]; omega
theorem wrap_u32 (n : Nat) (h : n < 2 ^ 32) : IntKind.u32.wrap (n : Int) = (n : Int) := by
  have e : (n : Int) % 2 ^ 32 = n := Int.emod_eq_of_lt (by omega) (by omega)
  simp only [IntKind.wrap, IntKind.bits, IntKind.signed, e]
  simp
theorem or_u32 (a b : Nat) (ha : a < 2 ^ 32) (hb : b < 2 ^ 32) : bits .or .u32 (a : Int) (b : Int) = ((a ||| b : Nat) : Int) := by
  show IntKind.u32.wrap ((BitVec.ofInt 32 (a : Int) ||| BitVec.ofInt 32 (b : Int)).toNat : Int) = _
  rw [BitVec.toNat_or, ofInt32 a ha, ofInt32 b hb]
  exact wrap_u32 _ (Nat.or_lt_two_pow ha hb)
theorem and_u32 (a b : Nat) (ha : a < 2 ^ 32) (hb : b < 2 ^ 32) : bits .and .u32 (a : Int) (b : Int) = ((a &&& b : Nat) : Int) := by
  show IntKind.u32.wrap ((BitVec.ofInt 32 (a : Int) &&& BitVec.ofInt 32 (b : Int)).toNat : Int) = _
  rw [BitVec.toNat_and, ofInt32 a ha, ofInt32 b hb]
  exact wrap_u32 _ (Nat.and_lt_two_pow _ hb)

set_option maxHeartbeats 400000 in
theorem bit_any (c : UInt8) (w : World) (h : 65 ≤ c.toNat ∧ c.toNat ≤ 90) :
    Calls Tryd.prog 20 #[.int .u8 (c.toNat : Int)] w fun e w' => e = .returned (.int .u32 ((2 ^ (c.toNat - 65) : Nat) : Int)) ∧ w' = w := by
  go_enter Tryd.func20, Tryd.ntmps20
  go_wp2
  have e : 2 ^ (c.toNat - 65) < 4294967296 := by
    have := Nat.pow_le_pow_right (n := 2) (by omega) (show c.toNat - 65 ≤ 25 by omega)
    omega
  have e2 : ((2 : Int) ^ (c.toNat - 65)) % 4294967296 = ((2 ^ (c.toNat - 65) : Nat) : Int) := by
    rw [Nat.cast_pow_two]
    have : ((2 ^ (c.toNat - 65) : Nat) : Int) < 4294967296 := by omega
    rw [Nat.cast_pow_two] at this
    exact Int.emod_eq_of_lt (by rw [← Nat.cast_pow_two]; exact Int.natCast_nonneg _) this
  go_ret
  exact ⟨ret_int e2, rfl⟩
theorem name_any (c : UInt8) (w : World) :
    Calls Tryd.prog 14 #[.int .u8 (c.toNat : Int)] w fun e w' => e = .returned (.bool (decide (65 ≤ c.toNat ∧ c.toNat ≤ 90))) ∧ w' = w := by
  by_cases h1 : 65 ≤ c.toNat
  · by_cases h2 : c.toNat ≤ 90
    all_goals
      go_enter Tryd.func14, Tryd.ntmps14
      go_wp2
      go_ret
      exact ⟨ret_bool (by simp [h1, h2]; omega), rfl⟩
  · go_enter Tryd.func14, Tryd.ntmps14
    go_wp2
    go_ret
    exact ⟨ret_bool (by simp), rfl⟩
theorem name_yes (c : UInt8) (w : World) (h : 65 ≤ c.toNat ∧ c.toNat ≤ 90) :
    Calls Tryd.prog 14 #[.int .u8 (c.toNat : Int)] w fun e w' => e = .returned (.bool true) ∧ w = w' :=
  (name_any c w).mono fun e w' ⟨he, hw⟩ => ⟨by rw [he, decide_eq_true h], hw.symm⟩
theorem name_no (c : UInt8) (w : World) (h : ¬ (65 ≤ c.toNat ∧ c.toNat ≤ 90)) :
    Calls Tryd.prog 14 #[.int .u8 (c.toNat : Int)] w fun e w' => e = .returned (.bool false) ∧ w = w' :=
  (name_any c w).mono fun e w' ⟨he, hw⟩ => ⟨by rw [he, decide_eq_false h], hw.symm⟩

/-- The value '.slice A n c' reads as the rules L, in blocks below B. -/
def Rules (w : World) (B : Nat) (A : Option Addr) (n : Nat) (L : List Ru) : Prop :=
  L.length = n ∧ (0 < n → ∃ b off, A = some ⟨b, off, none⟩ ∧ b < B ∧ ∀ j, j < n → w.cell? ⟨b, off + j * 2, none⟩ = some (.int .u8 ((ru L j).nm.toNat : Int)) ∧ w.cell? ⟨b, off + j * 2 + 1, none⟩ = some (S (ru L j).is))
theorem Rules.below {w w' : World} {B n : Nat} {A : Option Addr} {L : List Ru} (h : Rules w B A n L) (hb : Below B w w') : Rules w' B A n L :=
  ⟨h.1, fun hn => by
    obtain ⟨b, off, e, hbb, hc⟩ := h.2 hn
    exact ⟨b, off, e, hbb, fun j hj => ⟨(hb.cell (p := ⟨b, off + j * 2, none⟩) hbb).trans (hc j hj).1, (hb.cell (p := ⟨b, off + j * 2 + 1, none⟩) hbb).trans (hc j hj).2⟩⟩⟩
/-- Is a rule one? -/
def okR (r : Ru) : Bool := decide (65 ≤ r.nm.toNat ∧ r.nm.toNat ≤ 90) &&
  ((r.is.length == 1 && decide (97 ≤ (bu r.is 0).toNat ∧ (bu r.is 0).toNat ≤ 122)) || (r.is.length == 2 && (decide (65 ≤ (bu r.is 0).toNat ∧ (bu r.is 0).toNat ≤ 90) && decide (65 ≤ (bu r.is 1).toNat ∧ (bu r.is 1).toNat ≤ 90))))
/-- What is wrong with rules. -/
def chk (L : List Ru) : Int := if 10 < L.length then 4 else if L.all okR then 0 else 2

set_option maxRecDepth 100000 in
set_option maxHeartbeats 400000 in
theorem check_any (L : List Ru) (w : World) (A : Option Addr) (n c : Nat) (hn : n ≤ 9223372036854775807) (hR : Rules w w.heap.size A n L) :
    Calls Tryd.prog 7 #[.slice A n c] w fun e w' => e = .returned (errV (chk L)) ∧ Below w.heap.size w w' := by
  have hLn := hR.1
  by_cases h10 : 10 < n
  · have HC := Lib.hid (show errV (chk L) = .iface 40 (.int .i64 4) by unfold chk; rw [if_pos (by omega)]; rfl)
    go_enter Tryd.func7, Tryd.ntmps7
    go_wp2_with fail
    go_ret
    exact ⟨by rw [HC.out]; rfl, Below.refl _ _⟩
  · have HC := Lib.hid (show chk L = if L.all okR then 0 else 2 by unfold chk; rw [if_neg (by omega)])
    have HR := Lib.hid hR
    go_enter Tryd.func7, Tryd.ntmps7
    go_wp2_with fail
    go_loopg [11] n (fun f kv wr => ∃ k : Nat, k + f = n ∧ kv = .int .i64 (k : Int) ∧ (L.take k).all okR = true ∧ Below w.heap.size w wr)
    case atStart => exact ⟨0, by omega, rfl, by simp, Below.refl _ _⟩
    case round =>
      obtain ⟨k, hkf, rfl, hall, hB⟩ := hrel
      by_cases hlt : k < n
      · obtain ⟨f, rfl⟩ : ∃ f, gk = f + 1 := ⟨gk - 1, by omega⟩
        have hR1 := HR.out.below hB
        obtain ⟨b, off, rfl, hb, hc⟩ := hR1.2 (by omega)
        obtain ⟨c1, c2⟩ := hc k hlt
        have hbs := hB.size
        clear hc
        have hno : okR (ru L k) = false → errV (chk L) = .iface 40 (.int .i64 2) := fun h => by
          rw [HC.out, if_neg]
          · rfl
          · intro h2
            rw [List.all_eq_true] at h2
            have := h2 _ (ru_mem (L := L) (j := k) (by omega))
            rw [h] at this; cases this
        have hyes : okR (ru L k) = true → (L.take (k + 1)).all okR = true := fun h => by
          rw [take_succ_ru (by omega), List.all_append, hall]; simp [h]
        have HNO := Lib.hid hno; have HYES := Lib.hid hyes
        clear hno hyes hall hR1
        have HB := Lib.hid hB; clear hB
        have HB1 : Hid (Below w.heap.size w (wr.alloc (.cells #[.int .u8 ((ru L k).nm.toNat : Int), S (ru L k).is] 35))) := Lib.hid (HB.out.alloc hbs _)
        clear HC HR
        generalize ru L k = r at *
        by_cases h1 : 65 ≤ r.nm.toNat ∧ r.nm.toNat ≤ 90
        · go_wp2_with fail
          refine (name_yes _ _ h1).mono ?_
          rintro e w' ⟨rfl, rfl⟩
          by_cases hl1 : r.is.length = 1
          · have hl0 : 0 < r.is.length := by omega
            have hd1 : ((r.is.length : Int) == 1) = true := by simp; omega
            have hd1' : (r.is.length == 1) = true := by simp; omega
            have hd2 : ((r.is.length : Int) == 2) = false := by simp; omega
            have hd2' : (r.is.length == 2) = false := by simp; omega
            by_cases h97 : 97 ≤ (bu r.is 0).toNat
            · by_cases h122 : (bu r.is 0).toNat ≤ 122
              · have HOK := Lib.hid (HYES.out (by unfold okR; rw [hd1']; simp [h1, h97, h122]))
                clear hl1 HNO HYES
                go_wp2_with fail
                go_roundg f
                case measure => omega
                case rel => exact ⟨k + 1, by omega, by simp, HOK.out, HB1.out⟩
              · have HOK := Lib.hid (HNO.out (by unfold okR; rw [hd1', hd2']; simp; intros; omega))
                clear hl1 HNO HYES
                go_wp2_with fail
                go_ret
                exact ⟨by rw [HOK.out]; rfl, HB1.out⟩
            · have HOK := Lib.hid (HNO.out (by unfold okR; rw [hd1', hd2']; simp; intros; omega))
              clear hl1 HNO HYES
              go_wp2_with fail
              go_ret
              exact ⟨by rw [HOK.out]; rfl, HB1.out⟩
          · have hd1 : ((r.is.length : Int) == 1) = false := by simp; omega
            have hd1' : (r.is.length == 1) = false := by simp; omega
            by_cases hl2 : r.is.length = 2
            · have hl0 : 0 < r.is.length := by omega
              have hl1' : 1 < r.is.length := by omega
              have hd2 : ((r.is.length : Int) == 2) = true := by simp; omega
              have hd2' : (r.is.length == 2) = true := by simp; omega
              clear hl1
              by_cases ha : 65 ≤ (bu r.is 0).toNat ∧ (bu r.is 0).toNat ≤ 90
              · by_cases hb2 : 65 ≤ (bu r.is 1).toNat ∧ (bu r.is 1).toNat ≤ 90
                · have HOK := Lib.hid (HYES.out (by unfold okR; rw [hd1', hd2']; simp [h1, ha, hb2]))
                  clear hl2 HNO HYES
                  go_wp2_with fail
                  refine (name_yes _ _ ha).mono ?_
                  rintro e w' ⟨rfl, rfl⟩
                  go_wp2_with fail
                  refine (name_yes _ _ hb2).mono ?_
                  rintro e w' ⟨rfl, rfl⟩
                  go_wp2_with fail
                  go_roundg f
                  case measure => omega
                  case rel => exact ⟨k + 1, by omega, by simp, HOK.out, HB1.out⟩
                · have HOK := Lib.hid (HNO.out (by unfold okR; rw [hd1', hd2', decide_eq_false hb2]; simp))
                  clear hl2 HNO HYES
                  go_wp2_with fail
                  refine (name_yes _ _ ha).mono ?_
                  rintro e w' ⟨rfl, rfl⟩
                  go_wp2_with fail
                  refine (name_no _ _ hb2).mono ?_
                  rintro e w' ⟨rfl, rfl⟩
                  go_wp2_with fail
                  go_ret
                  exact ⟨by rw [HOK.out]; rfl, HB1.out⟩
              · have HOK := Lib.hid (HNO.out (by unfold okR; rw [hd1', hd2', decide_eq_false ha]; simp))
                clear hl2 HNO HYES
                go_wp2_with fail
                refine (name_no _ _ ha).mono ?_
                rintro e w' ⟨rfl, rfl⟩
                go_wp2_with fail
                go_ret
                exact ⟨by rw [HOK.out]; rfl, HB1.out⟩
            · have hd2 : ((r.is.length : Int) == 2) = false := by simp; omega
              have hd2' : (r.is.length == 2) = false := by simp; omega
              have HOK := Lib.hid (HNO.out (by unfold okR; rw [hd1', hd2']; simp))
              clear hl1 hl2 HNO HYES
              go_wp2_with fail
              go_ret
              exact ⟨by rw [HOK.out]; rfl, HB1.out⟩
        · have HOK := Lib.hid (HNO.out (by unfold okR; rw [decide_eq_false h1]; simp))
          go_wp2_with fail
          refine (name_no _ _ h1).mono ?_
          rintro e w' ⟨rfl, rfl⟩
          clear h1 HNO HYES
          go_wp2_with fail
          go_ret
          exact ⟨by rw [HOK.out]; rfl, HB1.out⟩
      · obtain rfl : k = n := by omega
        have HC2 := Lib.hid (show errV (chk L) = .nilIface by
          rw [HC.out, if_pos]
          · rfl
          · rwa [List.take_of_length_le (by omega)] at hall)
        have HB := Lib.hid hB; clear hB hall
        go_wp2_with fail
        go_ret
        exact ⟨by rw [HC2.out]; rfl, HB.out⟩
end Go.Proofs.YtlbiklhndcamhaaDoor
