/- The walks over package gram's Has, the document's Stands at a word of one byte, and the closed fact. -/
import Derived.Test.YtlbiklhndcamhaaDoorGramS
namespace Go.Proofs.YtlbiklhndcamhaaDoor
open Go.RowKit GramM IntWalk
attribute [local go_sem] byte_at str_app

def hasB (l : List UInt8) (c : UInt8) : Bool := l.any fun x => x == c
theorem hasB_take {l : List UInt8} {k : Nat} (h : k < l.length) (c : UInt8) : hasB (l.take (k + 1)) c = (hasB (l.take k) c || bu l k == c) := by
  unfold hasB
  rw [take_succ_bu h, List.any_append]
  simp
theorem nms_len (L : List Ru) (s : List UInt8) : (nms L s).length ≤ 26 := nmsTo_len L s 26

set_option maxRecDepth 100000 in
set_option maxHeartbeats 1000000 in
theorem Has_ok (L : List Ru) (s : List UInt8) (w : World) (A : Option Addr) (m c : Nat) (hm : m ≤ 9223372036854775807) (hR : Rules w w.heap.size A m L) (hc : chk L = 0) (hs : s.length ≤ 24) :
    Calls Tryd.prog 10 #[.slice A m c, S s] w fun e w' => e = .returned (.tuple #[.bool (hasB (nms L s) 83), .nilIface]) ∧ Below w.heap.size w w' := by
  go_enter Tryd.func10, Tryd.ntmps10
  go_wp2_with fail
  refine (Names_ok L s w A m c hm hR hc hs).mono ?_
  rintro e w1 ⟨rfl, hb1⟩
  have HB1 := Lib.hid hb1; clear hb1 hR
  have hTl := nms_len L s
  obtain ⟨T, hT⟩ : ∃ T, nms L s = T := ⟨_, rfl⟩
  have HT := Lib.hid hT
  rw [hT] at hTl ⊢
  clear hT
  go_wp2_with fail
  go_loopg [20] T.length (fun f iv wr => ∃ i : Nat, i + f = T.length ∧ iv = .int .i64 (i : Int) ∧ hasB (T.take i) 83 = false ∧ w1 = wr)
  case atStart => exact ⟨0, by omega, rfl, rfl, rfl⟩
  case round =>
    obtain ⟨i, hif, rfl, hno, rfl⟩ := hrel
    by_cases hi : i < T.length
    · obtain ⟨f, rfl⟩ : ∃ f, gk = f + 1 := ⟨gk - 1, by omega⟩
      have hst := hasB_take hi 83
      rw [hno, Bool.false_or] at hst
      by_cases hb : bu T i = 83
      · have hall : hasB T 83 = true := by
          unfold hasB
          rw [List.any_eq_true]
          exact ⟨bu T i, bu_mem hi, by simp [hb]⟩
        have HA := Lib.hid hall
        clear hst hno hall
        go_wp2_with fail
        go_ret2
        exact ⟨by rw [HT.out, HA.out]; rfl, HB1.out⟩
      · have hst2 : hasB (T.take (i + 1)) 83 = false := by rw [hst]; simpa using hb
        have HS := Lib.hid hst2
        have hbn : ((bu T i).toNat == 83) = false := by rw [beq_eq_false_iff_ne]; intro h; exact hb (UInt8.toNat_inj.1 h)
        have hbi : (((bu T i).toNat : Int) == 83) = false := by rw [beq_eq_false_iff_ne]; intro h; exact hb (UInt8.toNat_inj.1 (by exact_mod_cast h))
        clear hst hno hst2
        go_wp2_with fail
        go_roundg f
        case measure => omega
        case rel => exact ⟨i + 1, by omega, by simp, HS.out, rfl⟩
    · obtain rfl : i = T.length := by omega
      rw [List.take_length] at hno
      have HA := Lib.hid hno; clear hno
      go_wp2_with fail
      go_ret2
      exact ⟨by rw [HT.out, HA.out]; rfl, HB1.out⟩

set_option maxHeartbeats 400000 in
theorem begins_any (t : List UInt8) (c : UInt8) (w : World) (ht : t.length ≤ 1000) :
    Calls Tryd.prog 18 #[S t, S [c]] w fun e w' => e = .returned (.bool (decide (0 < t.length) && bu t 0 == c)) ∧ w = w' := by
  by_cases h0 : 0 < t.length
  · have e1 : (ByteArray.mk t.toArray).extract 0 1 = ByteArray.mk #[bu t 0] := by
      rw [str_mid]
      have : (t.drop 0).take (1 - 0) = [bu t 0] := by rw [drop_bu h0]; rfl
      rw [this]
    have h1 : 1 ≤ t.length := by omega
    by_cases hc : bu t 0 = c
    · go_enter Tryd.func18, Tryd.ntmps18
      go_wp2
      go_ret
      exact ⟨ret_bool (by simp [h0, hc]), rfl⟩
    · go_enter Tryd.func18, Tryd.ntmps18
      go_wp2
      go_ret
      exact ⟨ret_bool (by simp [h0]), rfl⟩
  · have h1 : ¬ 1 ≤ t.length := by omega
    go_enter Tryd.func18, Tryd.ntmps18
    go_wp2
    go_ret
    exact ⟨ret_bool (by simp), rfl⟩

theorem info_int : (Tryd.prog.info? 3).map (fun i => (i.zero, i.size, i.bytes)) = some (some (.int .i64 0), 1, 8) := by kernel_rfl
set_option maxRecDepth 100000 in
set_option maxHeartbeats 1000000 in
theorem stands_any (t : List UInt8) (c : UInt8) (w : World) (ht : t.length ≤ 1000) :
    Calls Tryd.prog 12 #[S t, S [c]] w fun e w' => (∃ A n k, e = .returned (.slice A n k) ∧ n ≤ 1000 ∧ decide (0 < n) = hasB t c) ∧ Below w.heap.size w w' := by
  obtain ⟨i0, hi, hz0, hz1, hz2⟩ := info_parts info_int
  go_enter Tryd.func12, Tryd.ntmps12
  go_wp2_with fail
  go_loopg [5, 6] t.length (fun f v iv wr => ∃ i : Nat, ∃ zs : List Int, i + f = t.length ∧ iv = .int .i64 (i : Int) ∧ wr.ownsRow w.heap.size 3 1 v zs.length (zs.map (Value.int .i64)) ∧ zs.length ≤ i ∧ decide (0 < zs.length) = hasB (t.take i) c ∧ Below w.heap.size w wr)
  case atStart => exact ⟨0, [], by omega, rfl, World.ownsRow_nil _ _ _ _, by simp, rfl, Below.refl _ _⟩
  case round =>
    obtain ⟨i, zs, hif, rfl, hown, hzl, hz, hB⟩ := hrel
    have HOWN := Lib.hid hown
    obtain ⟨A1, c1, rfl, hc1⟩ := own_shape hown
    clear hown
    have HB := Lib.hid hB; clear hB
    have HZ := Lib.hid hz; clear hz
    by_cases hlt : i < t.length
    · obtain ⟨f, rfl⟩ : ∃ f, gk = f + 1 := ⟨gk - 1, by omega⟩
      have hdr : (ByteArray.mk t.toArray).extract i t.length = ByteArray.mk (t.drop i).toArray := by rw [str_mid, List.take_of_length_le (by rw [List.length_drop]; omega)]
      have hbg := fun w => begins_any (t.drop i) c w (by rw [List.length_drop]; omega)
      rw [show decide (0 < (t.drop i).length) = true from decide_eq_true (by rw [List.length_drop]; omega), bu_drop, Nat.add_zero, Bool.true_and] at hbg
      have hst := hasB_take hlt c
      cases hb : bu t i == c
      · rw [hb] at hbg hst
        have HBG := Lib.hid hbg
        have HS : Hid (decide (0 < zs.length) = hasB (t.take (i + 1)) c) := Lib.hid (by rw [hst, Bool.or_false]; exact HZ.out)
        clear hbg hst hb
        go_wp2_with fail
        refine (HBG.out wr).mono ?_
        rintro e w' ⟨rfl, rfl⟩
        clear hdr
        go_wp2_with fail
        go_roundg f
        case measure => omega
        case rel => exact ⟨i + 1, zs, by omega, by simp, HOWN.out, by omega, HS.out, HB.out⟩
      · rw [hb] at hbg hst
        have HBG := Lib.hid hbg
        have HS : Hid (decide (0 < (zs ++ [(i : Int)]).length) = hasB (t.take (i + 1)) c) := Lib.hid (by rw [hst, Bool.or_true]; simp)
        have HZB := HB.out.size
        clear hbg hst hb
        go_wp2_with fail
        refine (HBG.out wr).mono ?_
        rintro e w' ⟨rfl, rfl⟩
        clear hdr
        go_wp2_with (at_builtin; refine wpList_append1 rfl (.tmp 18) (.tmp 20) _ rfl 3 i0 _ Tryd.underlying37 hi hz0 hz1 (by omega) rfl w.heap.size (.slice A1 zs.length c1) (zs.map (Value.int .i64)) (.int .i64 (i : Int)) rfl rfl rfl (by rw [List.length_map]; exact HOWN.out) (by simp; omega) HZB ?_; intro v' w' hown' hB')
        have hown2 : w'.ownsRow w.heap.size 3 1 v' (zs ++ [(i : Int)]).length ((zs ++ [(i : Int)]).map (Value.int .i64)) := by rw [List.map_append]; simpa using hown'
        have HO2 := Lib.hid hown2; clear hown2 hown'
        have HB2 := Lib.hid (HB.out.trans hB'); clear hB'
        go_roundg f
        case measure => omega
        case rel => exact ⟨i + 1, zs ++ [(i : Int)], by omega, by simp, HO2.out, by simp; omega, HS.out, HB2.out⟩
    · obtain rfl : i = t.length := by omega
      have HS : Hid (decide (0 < zs.length) = hasB t c) := Lib.hid (by have := HZ.out; rwa [List.take_length] at this)
      go_wp2_with fail
      go_ret
      exact ⟨⟨A1, zs.length, c1, rfl, by omega, HS.out⟩, HB.out⟩
end Go.Proofs.YtlbiklhndcamhaaDoor
