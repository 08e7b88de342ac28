/- dfa.Of's parts: signsOf, the closure that collects places. No condition. -/
import Derived.Test.YtchhbnnpannnhaaDfJ
import Derived.Test.YtchhbnnpannnhaaNfL
import Derived.BigQuiet
import Derived.Deep.QuietTactic
namespace Go.Proofs.Ytchhbnnpannnhaa
open Go.RowKit IntWalk Go.Maps
set_option linter.unusedSimpArgs false
set_option linter.unusedVariables false
attribute [local go_sem] byte_at str_app
attribute [local go_sem ↓] Go.wp_at_zero Go.wp_at_succ

set_option maxRecDepth 100000 in
set_option maxHeartbeats 4000000 in
theorem signsOf_any (s : List UInt8) (w : World) (h9 : s.length ≤ 1000) :
    Calls Try.prog 42 #[S s] w fun e w' => (∃ v, e = .returned v ∧ OwnB w' w.heap.size v (lets s)) ∧ Below w.heap.size w w' := by
  obtain ⟨i0, hi0, hz0, hz1, hz2⟩ := info_parts info_byteL
  obtain ⟨cap, W0, hcv, hB7, hz7, hc7⟩ := conv_str s w
  have HC := Lib.hid hc7
  have HB := Lib.hid hB7
  have HZ := Lib.hid hz7
  have HAL : Hid (lets s = lets (s.take s.length)) := Lib.hid (by rw [List.take_length])
  clear hB7 hz7 hc7
  go_enter Try.func42, Try.ntmps42
  go_wp2_with fail
  clear hcv
  go_loopw [3, 9] (fun ov kv wr => ∃ (k : Nat), kv = .int .i64 (k : Int) ∧ k ≤ s.length ∧ Hid (OwnB wr W0.heap.size ov (lets (s.take k))) ∧ Hid (Below W0.heap.size W0 wr)) (fun _ kv _ => s.length - (intOf kv).toNat)
  case atStart => exact ⟨0, rfl, Nat.zero_le _, Lib.hid (World.ownsRow_nil _ _ _ _), Lib.hid (Below.refl _ _)⟩
  case round =>
    obtain ⟨k, rfl, hk9, HO, HBW⟩ := hrel
    have hz := HZ.out
    by_cases hk : k < s.length
    · have hst := lets_step hk
      have hll := lets_len (s.take k)
      rw [List.length_take] at hll
      have hc := (HBW.out.cell (p := ⟨w.heap.size, k, none⟩) (show w.heap.size < W0.heap.size by omega)).trans (HC.out k hk)
      have p1 : (k : Int) < (s.length : Int) := by omega
      have p3 : IntKind.i64.wrap ((k : Int) + 1) = (k : Int) + 1 := i64_in _ (by omega)
      have HLN := Lib.hid hll
      generalize lets (s.take k) = o at *
      clear hll
      generalize hcc : bu s k = cc at *
      by_cases ha : 97 ≤ cc.toNat
      · have q1 : (97 : Int) ≤ (cc.toNat : Int) := by omega
        by_cases hb : cc.toNat ≤ 122
        · have q2 : (cc.toNat : Int) ≤ 122 := by omega
          have HS : Hid (lets (s.take (k + 1)) = o ++ [cc]) := Lib.hid (by rw [hst, if_pos]; unfold isLo; exact decide_eq_true ⟨UInt8.le_iff_toNat_le.2 ha, UInt8.le_iff_toNat_le.2 hb⟩)
          clear hst
          go_wp2_with (at_builtin; refine wpList_append1 rfl (.tmp 19) (.tmp 21) _ rfl 5 i0 _ Try.underlying35 hi0 hz0 hz1 (by omega) rfl W0.heap.size _ (bcells o) (.int .u8 (cc.toNat : Int)) rfl rfl rfl (by have h := HO.out; unfold OwnB at h; rwa [← bcells_len o] at h) (by have := HLN.out; rw [bcells_len]; omega) HBW.out.size ?_; intro v' w' hown' hbl'; have HO2 := Lib.hid hown'; have HB2 := Lib.hid (HBW.out.trans hbl'); clear hown' hbl'; go_frame)
          go_roundw
          case rel =>
            refine ⟨k + 1, by go_num, by omega, ?_, HB2⟩
            rw [HS.out]
            refine Lib.hid ?_
            have h := HO2.out
            have e : (o ++ [cc]).length = (bcells o ++ [Value.int .u8 (cc.toNat : Int)]).length := by simp [bcells_len]
            unfold OwnB
            rw [bcells_app, e]; exact h
          case measure => simp [intOf]; omega
        · have q2 : ¬ (cc.toNat : Int) ≤ 122 := by omega
          have HS : Hid (lets (s.take (k + 1)) = o) := Lib.hid (by rw [hst, if_neg]; unfold isLo; intro h; exact hb (UInt8.le_iff_toNat_le.1 (of_decide_eq_true h).2))
          clear hst
          go_wp2_with fail
          go_roundw
          case rel => exact ⟨k + 1, by go_num, by omega, by rw [HS.out]; exact HO, HBW⟩
          case measure => simp [intOf]; omega
      · have q1 : ¬ (97 : Int) ≤ (cc.toNat : Int) := by omega
        have HS : Hid (lets (s.take (k + 1)) = o) := Lib.hid (by rw [hst, if_neg]; unfold isLo; intro h; exact ha (UInt8.le_iff_toNat_le.1 (of_decide_eq_true h).1))
        clear hst
        go_wp2_with fail
        go_roundw
        case rel => exact ⟨k + 1, by go_num, by omega, by rw [HS.out]; exact HO, HBW⟩
        case measure => simp [intOf]; omega
    · obtain rfl : k = s.length := by omega
      go_wp2_with fail
      go_ret
      refine ⟨⟨_, rfl, ?_⟩, HB.out.trans (HBW.out.mono HB.out.size)⟩
      rw [HAL.out]
      exact own_base HO.out HB.out.size

/-- What the closure adds to a set. -/
def flw (lv : List UInt8) (c : UInt8) (T : Nat) (L : List Nat) : Nat := L.foldl (fun T j => if bu lv j = c then T ||| 2 ^ j else T) T
theorem flw_snoc (lv : List UInt8) (c : UInt8) (T : Nat) (L : List Nat) (j : Nat) : flw lv c T (L ++ [j]) = if bu lv j = c then flw lv c T L ||| 2 ^ j else flw lv c T L := by
  unfold flw; rw [List.foldl_append]; rfl
theorem flw_bit (lv : List UInt8) (c : UInt8) (i : Nat) : ∀ (L : List Nat) (T : Nat), (flw lv c T L).testBit i = (T.testBit i || decide (i ∈ L ∧ bu lv i = c))
  | [], T => by simp [flw]
  | j :: L, T => by
    show (flw lv c (if bu lv j = c then T ||| 2 ^ j else T) L).testBit i = _
    rw [flw_bit lv c i L]
    by_cases h : bu lv j = c
    · rw [if_pos h, Nat.testBit_or, Nat.testBit_two_pow]
      by_cases e : j = i
      · subst e; simp [h]
      · have e' : ¬ i = j := fun x => e x.symm
        simp [e, e']
    · rw [if_neg h]
      by_cases e : i = j
      · subst e; simp [h]
      · simp [e]
theorem flw_lt {lv : List UInt8} {c : UInt8} {n : Nat} : ∀ {L : List Nat} {T : Nat}, T < 2 ^ n → (∀ j ∈ L, j < n) → flw lv c T L < 2 ^ n
  | [], T, hT, _ => hT
  | j :: L, T, hT, hL => by
    show flw lv c (if bu lv j = c then T ||| 2 ^ j else T) L < 2 ^ n
    refine flw_lt ?_ fun x hx => hL x (by simp [hx])
    split
    · exact Nat.or_lt_two_pow hT (Nat.pow_lt_pow_right (by omega) (hL j (by simp)))
    · exact hT
theorem pow_cast (x : Nat) : (2 : Int) ^ x = ((2 ^ x : Nat) : Int) := by simp
theorem pow_small {x : Nat} (h : x < 21) : (2 : Nat) ^ x < 2097152 := Nat.lt_of_lt_of_le (Nat.pow_lt_pow_right (by omega) h) (by decide)
theorem wrap_pow {x : Nat} (h : x < 21) : wrap64 ((2 : Int) ^ x) = ((2 ^ x : Nat) : Int) := by
  rw [pow_cast]
  have := pow_small h
  generalize 2 ^ x = y at *
  unfold wrap64; omega
theorem wrap_sml (n : Int) (h0 : 0 ≤ n) (h1 : n < 2 ^ 21) : IntKind.i64.wrap n = n := IntWalk.i64_in _ (by omega)
theorem or_i64 {a b : Nat} (ha : a < 2097152) (hb : b < 2097152) : bits .or .i64 (a : Int) (b : Int) = ((a ||| b : Nat) : Int) := (bits_nat .i64 21 (by decide) wrap_sml a b ha hb).2
theorem and_i64 {a b : Nat} (ha : a < 2097152) (hb : b < 2097152) : bits .and .i64 (a : Int) (b : Int) = ((a &&& b : Nat) : Int) := (bits_nat .i64 21 (by decide) wrap_sml a b ha hb).1
theorem or_sh {U x : Nat} (hU : U < 2 ^ 12) (hx : x < 21) : bits .or .i64 (U : Int) (wrap64 (2 ^ x)) = ((U ||| 2 ^ x : Nat) : Int) := by
  rw [wrap_pow hx]
  exact or_i64 (by omega) (pow_small hx)
/-- All but one block stay. -/
theorem Fr1.drewN {r : Nat} {a b : World} (h : Fr1 r a b) (n : Nat) : Fr1 r a (b.drewN n) := ⟨h.os, h.tape, h.output, h.size, h.block⟩
set_option maxRecDepth 100000 in
set_option maxHeartbeats 4000000 in
theorem follow_any (A : Option Addr) (m c0 B : Nat) (L : List Nat) (A1 : Option Addr) (c1 gA gc gt T : Nat) (lv : List UInt8) (c : UInt8) (w : World) (hL : Ints w B A m (zs L)) (hn : ∀ x ∈ L, x < lv.length) (h12 : lv.length ≤ 12)
    (hA : w.cell? ⟨gA, 0, none⟩ = some (.slice A1 lv.length c1)) (hl : ∀ i, i < lv.length → ∃ gs, A1 = some ⟨gs, 0, none⟩ ∧ gs ≠ gt ∧ w.cell? ⟨gs, i, none⟩ = some (.int .u8 ((bu lv i).toNat : Int)))
    (hc : w.cell? ⟨gc, 0, none⟩ = some (.int .u8 (c.toNat : Int))) (ht : Blk w gt 3 [.int .i64 (T : Int)]) (hT : T < 2 ^ 12) (h1 : gA ≠ gt) (h2 : gc ≠ gt) (h3 : B ≤ gt) (hm : m ≤ 100000) :
    Calls Try.prog 43 #[.slice A m c0, .pointer (some ⟨gA, 0, none⟩), .pointer (some ⟨gc, 0, none⟩), .pointer (some ⟨gt, 0, none⟩)] w fun e w' => e = .returned (.tuple #[]) ∧ Blk w' gt 3 [.int .i64 (flw lv c T L : Int)] ∧ Fr1 gt w w' := by
  have hm2 : L.length = m := by have := hL.1; simpa using this
  have HFX : Hid (∀ W, Fr1 gt w W → Ints W B A m (zs L) ∧ W.cell? ⟨gA, 0, none⟩ = some (.slice A1 lv.length c1) ∧ (∀ i, i < lv.length → ∃ gs, A1 = some ⟨gs, 0, none⟩ ∧ W.cell? ⟨gs, i, none⟩ = some (.int .u8 ((bu lv i).toNat : Int))) ∧ W.cell? ⟨gc, 0, none⟩ = some (.int .u8 (c.toNat : Int))) := Lib.hid (fun W hf => by
    have cellW : ∀ b o, b ≠ gt → ∀ v, w.cell? ⟨b, o, none⟩ = some v → W.cell? ⟨b, o, none⟩ = some v := fun b o hb v hv => (World.cell?_of_block (a := ⟨b, o, none⟩) (hf.block b (World.block_lt_of_cell? w _ hv) hb)).trans hv
    refine ⟨⟨hL.1, fun h0 => ?_⟩, cellW _ _ h1 _ hA, fun i hi => ?_, cellW _ _ h2 _ hc⟩
    · obtain ⟨b, off, e, hb, hcc⟩ := hL.2 h0
      exact ⟨b, off, e, hb, fun j hj => cellW _ _ (by omega) _ (hcc j hj)⟩
    · obtain ⟨gs, e, hne, hcc⟩ := hl i hi
      exact ⟨gs, e, cellW _ _ hne _ hcc⟩)
  have HT0 := Lib.hid ht
  have HLN := Lib.hid hn
  clear hL hA hl hc ht hn
  go_enter Try.func43, Try.ntmps43
  go_wp2_with fail
  go_loopw [9] (fun kv wr => ∃ (k : Nat), kv = .int .i64 (k : Int) ∧ k ≤ m ∧ Hid (Blk wr gt 3 [.int .i64 (flw lv c T (L.take k) : Int)]) ∧ Hid (Fr1 gt w wr)) (fun kv _ => m - (intOf kv).toNat)
  case atStart => exact ⟨0, rfl, Nat.zero_le _, HT0, Lib.hid (Fr1.refl _ _)⟩
  case round =>
    obtain ⟨k, rfl, hkm, HT, HF⟩ := hrel
    by_cases hk : k < m
    · obtain ⟨hI, hA, hl, hc⟩ := HFX.out _ HF.out
      obtain ⟨x, hx⟩ : ∃ x, L[k]? = some x := ⟨_, List.getElem?_eq_getElem (by omega)⟩
      have hxn := HLN.out x (List.mem_of_getElem? hx)
      obtain ⟨b1, o1, rfl, hb1, hcx⟩ := hI.at_ hk
      rw [gi_zs hx] at hcx
      obtain ⟨gs, rfl, hcl⟩ := hl x hxn
      have HST : Hid (flw lv c T (L.take (k + 1)) = if bu lv x = c then flw lv c T (L.take k) ||| 2 ^ x else flw lv c T (L.take k)) := Lib.hid (by rw [List.take_add_one, hx]; exact flw_snoc _ _ _ _ _)
      have hlt : flw lv c T (L.take k) < 2 ^ 12 := flw_lt hT fun j hj => Nat.lt_of_lt_of_le (HLN.out j (List.mem_of_mem_take hj)) h12
      have hct : wr.cell? ⟨gt, 0, none⟩ = some (.int .i64 (flw lv c T (L.take k) : Int)) := HT.out.cell 0
      have hft : wr.frozen? ⟨gt, 0, none⟩ = false := HT.out.frozen 0
      have z1 : (k : Int) < (m : Int) := by omega
      have z2 : (x : Int) < (lv.length : Int) := by omega
      have z3 : IntKind.i64.wrap ((k : Int) + 1) = (k : Int) + 1 := IntWalk.i64_in _ (by omega)
      have heb : (((bu lv x).toNat : Int) == (c.toNat : Int)) = decide (bu lv x = c) := same_dec _ _
      generalize flw lv c T (L.take k) = U at *
      clear hl
      by_cases he : bu lv x = c
      · rw [decide_eq_true he] at heb
        rw [if_pos he] at HST
        clear he
        go_wp2_with fail
        go_quiet (fail)
        go_wp2_with fail
        have HBS := Lib.hid (show Blk ((wr.drewN (nq + 1)).setCell ⟨gt, 0, none⟩ (.int .i64 ((U ||| 2 ^ x : Nat) : Int))) gt 3 [.int .i64 ((U ||| 2 ^ x : Nat) : Int)] from (HT.out.drewN (nq + 1)).set_ 0 _)
        have HFS := Lib.hid ((HF.out.drewN (nq + 1)).set 0 (.int .i64 ((U ||| 2 ^ x : Nat) : Int)))
        have hor := or_sh (U := U) (x := x) hlt (by omega)
        go_region
        go_wp2_with fail
        go_roundw
        case rel => exact ⟨k + 1, by go_num, by omega, by rw [HST.out]; exact HBS, HFS⟩
        case measure => simp [intOf]; omega
      · rw [decide_eq_false he] at heb
        rw [if_neg he] at HST
        clear he
        go_wp2_with fail
        go_quiet (fail)
        go_wp2_with fail
        go_roundw
        case rel => exact ⟨k + 1, by go_num, by omega, by rw [HST.out]; exact HT, Lib.hid (HF.out.drewN _)⟩
        case measure => simp [intOf]; omega
    · obtain rfl : k = m := by omega
      have HE : Hid (flw lv c T (L.take k) = flw lv c T L) := Lib.hid (by rw [List.take_of_length_le (by omega)])
      go_wp2_with fail
      go_end0
      exact ⟨rfl, by rw [← HE.out]; exact HT.out, HF.out⟩
end Go.Proofs.Ytchhbnnpannnhaa
