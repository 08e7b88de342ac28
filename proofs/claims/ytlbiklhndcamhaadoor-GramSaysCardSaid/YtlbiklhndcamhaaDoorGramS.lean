/- The walks over package gram's Names and Has. -/
import Derived.Test.YtlbiklhndcamhaaDoorGramN
import Derived.Laws.IdiomStrings
namespace Go.Proofs.YtlbiklhndcamhaaDoor
open Go.RowKit GramM IntWalk
attribute [local go_sem] byte_at str_app

set_option maxHeartbeats 400000 in
theorem long1_yes (m : Int) (l : List UInt8) (w : World) (b off : Nat) (hA : w.cell? ⟨b, off, none⟩ = some (S l)) (h : m < (l.length : Int)) :
    Calls Tryd.prog 16 #[.int .i64 m, .slice (some ⟨b, off, none⟩) 1 1] w fun e w' => e = .returned (.iface 40 (.int .i64 4)) ∧ w = w' := by
  go_enter Tryd.func16, Tryd.ntmps16
  go_wp2_with fail
  refine wp_loop_rounds 2 ?_
  rw [rounds_succ]
  go_wp2_with fail
  go_ret
  exact ⟨rfl, rfl⟩
set_option maxHeartbeats 400000 in
theorem long1_no (m : Int) (l : List UInt8) (w : World) (b off : Nat) (hA : w.cell? ⟨b, off, none⟩ = some (S l)) (h : (l.length : Int) ≤ m) :
    Calls Tryd.prog 16 #[.int .i64 m, .slice (some ⟨b, off, none⟩) 1 1] w fun e w' => e = .returned .nilIface ∧ w = w' := by
  go_enter Tryd.func16, Tryd.ntmps16
  go_wp2_with fail
  refine wp_loop_rounds 2 ?_
  rw [rounds_succ]
  go_wp2_with fail
  rw [rounds_succ]
  go_wp2_with fail
  go_ret
  exact ⟨rfl, rfl⟩

theorem shr_bit (X c : Nat) (hX : X < 2 ^ 26) : bits .and .u32 ((X : Int) / 2 ^ c) 1 = if X.testBit c then 1 else 0 := by
  have e : (X : Int) / 2 ^ c = ((X / 2 ^ c : Nat) : Int) := by rw [Int.natCast_ediv, Nat.cast_pow_two]
  have h := and_u32 (X / 2 ^ c) 1 (Nat.lt_of_le_of_lt (Nat.div_le_self _ _) (by omega)) (by omega)
  rw [Nat.and_one_is_mod] at h
  rw [e]
  refine Eq.trans h ?_
  rw [Nat.testBit_eq_decide_div_mod_eq]
  rcases Nat.mod_two_eq_zero_or_one (X / 2 ^ c) with h2 | h2
  · rw [h2]; rfl
  · rw [h2]; rfl
/-- The names up to one. -/
def nmsTo (L : List Ru) (s : List UInt8) (n : Nat) : List UInt8 := ((List.range n).filter fun c => der L (65 + c) s).map fun c => UInt8.ofNat (65 + c)
def nms (L : List Ru) (s : List UInt8) : List UInt8 := nmsTo L s 26
theorem nmsTo_succ (L : List Ru) (s : List UInt8) (n : Nat) : nmsTo L s (n + 1) = if der L (65 + n) s = true then nmsTo L s n ++ [UInt8.ofNat (65 + n)] else nmsTo L s n := by
  unfold nmsTo
  rw [List.range_succ, List.filter_append, List.map_append]
  by_cases h : der L (65 + n) s = true
  · simp [h]
  · simp [h]
theorem nmsTo_len (L : List Ru) (s : List UInt8) (n : Nat) : (nmsTo L s n).length ≤ n := by
  unfold nmsTo
  rw [List.length_map]
  exact Nat.le_trans (List.length_filter_le _ _) (by simp)
theorem nms_nil (L : List Ru) : nms L [] = [] := by
  unfold nms nmsTo
  have : ((List.range 26).filter fun c => der L (65 + c) []) = [] := by
    rw [List.filter_eq_nil_iff]
    intro c _
    simp [der, derB_nil]
  rw [this]; rfl

set_option maxRecDepth 100000 in
set_option maxHeartbeats 1000000 in
theorem Names_err (L : List Ru) (s : List UInt8) (w : World) (A : Option Addr) (m c : Nat) (hm : m ≤ 9223372036854775807) (hR : Rules w w.heap.size A m L) (hc : chk L ≠ 0) :
    Calls Tryd.prog 9 #[.slice A m c, S s] w fun e w' => e = .returned (.tuple #[S [], errV (chk L)]) ∧ Below w.heap.size w w' := by
  go_enter Tryd.func9, Tryd.ntmps9
  go_wp2_with fail
  refine (check_any L w A m c hm hR).mono ?_
  rintro e w1 ⟨rfl, hb1⟩
  have HB1 := Lib.hid hb1; clear hb1 hR
  have hE : errV (chk L) = .iface 40 (.int .i64 (chk L)) := by unfold errV; rw [if_neg hc]
  have HE := Lib.hid hE
  rw [hE]
  clear hc hE
  go_wp2_with fail
  go_ret2
  exact ⟨by rw [HE.out]; rfl, HB1.out⟩
set_option maxRecDepth 100000 in
set_option maxHeartbeats 1000000 in
theorem Names_long (L : List Ru) (s : List UInt8) (w : World) (A : Option Addr) (m c : Nat) (hm : m ≤ 9223372036854775807) (hR : Rules w w.heap.size A m L) (hc : chk L = 0) (hs : 24 < s.length) :
    Calls Tryd.prog 9 #[.slice A m c, S s] w fun e w' => e = .returned (.tuple #[S [], .iface 40 (.int .i64 4)]) ∧ Below w.heap.size w w' := by
  go_enter Tryd.func9, Tryd.ntmps9
  go_wp2_with fail
  refine (check_any L w A m c hm hR).mono ?_
  rw [hc]
  rintro e w1 ⟨rfl, hb1⟩
  have HB1 := Lib.hid hb1; clear hb1 hR
  rw [show errV 0 = .nilIface from rfl]
  clear hc
  go_wp2_with fail
  refine (long1_yes 24 s _ _ _ ?c1 (by omega)).mono ?_
  case c1 => simp
  rintro e w2 ⟨rfl, rfl⟩
  have HB2 : Hid (Below w.heap.size w (w1.alloc (.cells #[S s] 9))) := Lib.hid (HB1.out.alloc HB1.out.size _)
  go_wp2_with fail
  go_ret2
  exact ⟨rfl, HB2.out⟩
set_option maxRecDepth 100000 in
set_option maxHeartbeats 1000000 in
theorem Names_ok (L : List Ru) (s : List UInt8) (w : World) (A : Option Addr) (m c : Nat) (hm : m ≤ 9223372036854775807) (hR : Rules w w.heap.size A m L) (hc : chk L = 0) (hs : s.length ≤ 24) :
    Calls Tryd.prog 9 #[.slice A m c, S s] w fun e w' => e = .returned (.tuple #[S (nms L s), .nilIface]) ∧ Below w.heap.size w w' := by
  have hLm := hR.1
  have h10 : m ≤ 10 ∧ L.all okR = true := by
    unfold chk at hc
    split at hc
    · cases hc
    · rename_i h
      split at hc
      · rename_i h2; exact ⟨by omega, h2⟩
      · cases hc
  have HR := Lib.hid hR
  go_enter Tryd.func9, Tryd.ntmps9
  go_wp2_with fail
  refine (check_any L w A m c hm hR).mono ?_
  rw [hc]
  rintro e w1 ⟨rfl, hb1⟩
  have HB1 := Lib.hid hb1; clear hb1 hR
  rw [show errV 0 = .nilIface from rfl]
  clear hc
  go_wp2_with fail
  refine (long1_no 24 s _ _ _ ?c1 (by omega)).mono ?_
  case c1 => simp
  rintro e w2 ⟨rfl, rfl⟩
  have HB2 : Hid (Below w.heap.size w (w1.alloc (.cells #[S s] 9))) := Lib.hid (HB1.out.alloc HB1.out.size _)
  clear HB1
  generalize w1.alloc (.cells #[S s] 9) = w2 at *
  by_cases hnil : s = []
  · subst hnil
    have HN := Lib.hid (nms_nil L)
    go_wp2_with fail
    go_ret2
    exact ⟨by rw [HN.out]; rfl, HB2.out⟩
  · have hs1 : 1 ≤ s.length := by
      rcases Nat.eq_zero_or_pos s.length with h | h
      · exact (hnil (List.length_eq_zero_iff.1 h)).elim
      · exact h
    have hne : (s == []) = false := by simpa using hnil
    have hne2 : s.isEmpty = false := by simpa using hnil
    have hR2 : Rules w2 w2.heap.size A m L := ⟨hLm, fun hn => by
      obtain ⟨b, off, e, hb, hc⟩ := (HR.out.below HB2.out).2 hn
      exact ⟨b, off, e, Nat.lt_of_lt_of_le hb HB2.out.size, hc⟩⟩
    go_wp2_with fail
    refine (names_any L s w2 A m c hR2 h10.1 h10.2 hs1 hs).mono ?_
    rintro e w3 ⟨g0, G, rfl, hT, hb3⟩
    have HB3 := Lib.hid (HB2.out.trans (hb3.mono HB2.out.size)); clear hb3 HB2
    obtain ⟨t1, t2⟩ := hT.topc (show 0 < s.length by omega)
    obtain ⟨r1, r2⟩ := hT.rowc (show 0 < s.length by omega) (show s.length ≤ s.length - 0 by omega)
    rw [Vt_lt _ _ _ _ _ _ _ hs1 (by omega)] at r1
    rw [Nat.sub_zero] at t1
    have hfull : full L s 0 s.length = mk fun c => der L (65 + c) s := by
      unfold full cut
      rw [List.drop_zero, List.take_length]
    rw [hfull] at r1
    have hbit := fun c => mk_bit (fun c => der L (65 + c) s) c
    have hX := mk_lt (fun c => der L (65 + c) s)
    generalize mk (fun c => der L (65 + c) s) = X at *
    have HBIT := Lib.hid hbit
    have hz : 0 < s.length := by omega
    have hz1 : (s.length : Int) < (s.length : Int) + 1 := by omega
    clear hT hbit hfull
    go_wp2_with fail
    clear t1 t2 r1 r2 hz hz1
    go_loopg [8, 10] 26 (fun f ov cv wr => ∃ c : Nat, c + f = 26 ∧ cv = .int .u8 (65 + (c : Int)) ∧ ov = S (nmsTo L s c) ∧ Below w.heap.size w wr)
    case atStart => exact ⟨0, by omega, rfl, rfl, HB3.out⟩
    case round =>
      clear HB3
      obtain ⟨c, hcf, rfl, rfl, hB⟩ := hrel
      have HB := Lib.hid hB; clear hB
      by_cases hlt : c < 26
      · obtain ⟨f, rfl⟩ : ∃ f, gk = f + 1 := ⟨gk - 1, by omega⟩
        have hns := nmsTo_succ L s c
        have hbc := HBIT.out c
        rw [decide_eq_true hlt, Bool.true_and] at hbc
        have hsh := shr_bit X c hX
        rw [hbc] at hsh
        cases hd : der L (65 + c) s
        · rw [hd] at hsh hns
          have HNS := Lib.hid hns
          have h0 : bits .and .u32 ((X : Int) / 2 ^ c) 1 = 0 := hsh
          clear hns hbc hd hsh
          go_wp2_with fail
          clear h0
          go_roundg f
          case measure => omega
          case rel => exact ⟨c + 1, by omega, by simp [Int.add_assoc], by rw [HNS.out]; rfl, HB.out⟩
        · rw [hd] at hsh hns
          obtain ⟨x, hx⟩ : ∃ x : UInt8, UInt8.ofNat (65 + c) = x := ⟨_, rfl⟩
          have hx2 : (x.toNat : Int) = 65 + (c : Int) := by rw [← hx]; simp; omega
          rw [hx] at hns
          clear hx
          have HNS := Lib.hid hns
          have hlen := nmsTo_len L s c
          have h0 : bits .and .u32 ((X : Int) / 2 ^ c) 1 = 1 := hsh
          have hcv : (convert 46 9 (.slice (some ⟨wr.heap.size, 0, none⟩) 1 1)).run Tryd.prog (wr.alloc (.cells #[.int .u8 (65 + (c : Int))] 5)) = .ok (S [x]) (wr.alloc (.cells #[.int .u8 (65 + (c : Int))] 5)) := run_convert_bytes_back (P := Tryd.prog) (wr.alloc (.cells #[.int .u8 (65 + (c : Int))] 5)) 46 9 5 ⟨wr.heap.size, 0, none⟩ 1 [x] Tryd.underlying46 Tryd.underlying5 Tryd.underlying9 (fun j hj => by
            obtain rfl : j = 0 := by simpa using hj
            simp [Addr.add, World.cell?_alloc_new, hx2])
          have HB2 := Lib.hid (HB.out.alloc HB.out.size (.cells #[.int .u8 (65 + (c : Int))] 5))
          clear hns hbc hd hsh hx2
          go_wp2_with fail
          clear h0 hcv
          go_roundg f
          case measure => omega
          case rel => exact ⟨c + 1, by omega, by simp [Int.add_assoc], by rw [HNS.out]; rfl, HB2.out⟩
      · obtain rfl : c = 26 := by omega
        go_wp2_with fail
        go_ret2
        exact ⟨rfl, HB.out⟩
end Go.Proofs.YtlbiklhndcamhaaDoor
