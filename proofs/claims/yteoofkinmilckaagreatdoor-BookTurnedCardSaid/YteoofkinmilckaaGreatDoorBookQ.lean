/- The law BookTurned: its walk. Condition: internal/strconv.uint64pow10, errors.errorType read as the library's text lays them; strconv.ErrSyntax, strconv.ErrRange hold an error each; internal/bytealg.MaxLen holds an integer. -/
import Derived.Test.YteoofkinmilckaaGreatDoorBookY
import Derived.Test.YteoofkinmilckaaGreatDoorBookE
import Derived.Test.YteoofkinmilckaaGreatDoorAs
namespace Go.Proofs.YteoofkinmilckaaGreatDoor
open Go.RowKit IntWalk
attribute [local go_sem] byte_at str_app
attribute [local go_sem ↓] Go.wp_at_zero Go.wp_at_succ

theorem ends_more {l : List UInt8} {i : Nat} (h : i < l.length) : ends (l.take (i + 1)) = ends (l.take i) + if bu l i = 10 then 1 else 0 := by
  unfold ends
  rw [take_succ_bu h, List.countP_append]
  congr 1
  by_cases e : bu l i = 10
  · rw [if_pos e]; simp [e]
  · rw [if_neg e]; simp [e]

set_option maxRecDepth 100000 in
set_option maxHeartbeats 8000000 in
theorem bookTurned_walk (w : World) (A A2 : Option Addr) (n c m c2 : Nat) (L : List Int) (W : List (List UInt8)) (N : Int) (x : UInt8) (ht : TG w) (hm : ML w) (he : EV w) (hg : HG w)
    (hL : Ints w w.heap.size A n L) (hW : Strs w w.heap.size A2 m W) (hW9 : ∀ x ∈ W, x.length ≤ 9223372036854775807) :
    Calls Tryz.prog 4 #[.slice A n c, .slice A2 m c2, .int .i64 N, .int .u8 (x.toNat : Int)] w fun e w' => e = .returned (.bool true) ∧ Below w.heap.size w w' := by
  have HL := Lib.hid hL; have HW := Lib.hid hW; have HW9 := Lib.hid hW9; have HT := Lib.hid ht; have HM := Lib.hid hm; have HE := Lib.hid he; have HG0 := Lib.hid hg
  clear hL hW hW9 ht hm he hg
  go_enter Tryz.func4, Tryz.ntmps4
  go_wp2_with fail
  refine (bookFact_any w HT.out).mono ?_
  rintro e w1 ⟨rfl, hb1⟩
  have HB1 := Lib.hid hb1
  have HT1 := Lib.hid (HT.out.below hb1 (Nat.le_refl _))
  have HL1 := Lib.hid ((HL.out.below hb1).more hb1.size)
  have HW1 := Lib.hid ((HW.out.below hb1).more hb1.size)
  have HSZ := Lib.hid hb1.size
  clear hb1
  go_wp2_with fail
  refine (put_all nF w1 A A2 n c m c2 L W HT1.out HL1.out HW1.out HW9.out (fun _ _ h => by cases h)).mono ?_
  rintro e w2 ⟨rfl, hk2, hb2⟩
  have HLG := Lib.hid (stS_logs L W (putK n m))
  generalize stEv L W (putK n m) = es at *
  generalize stS L W (putK n m) = st at *
  have HB2 := Lib.hid (HB1.out.trans (hb2.mono HSZ.out))
  have HZ2 := Lib.hid hb2.size
  have HK2 := Lib.hid hk2
  clear hb2 hk2 HL1 HW1 HB1 HT1
  generalize w1.heap.size = B at *
  go_wp2_with fail
  refine (text_all nF B B st.now st.txt st.many w2 HK2.out HZ2.out).mono ?_
  rintro e w3 ⟨rfl, hk3, hb3⟩
  have HB3 := Lib.hid (HB2.out.trans (hb3.mono HSZ.out))
  clear hk3 hb3 HK2 HB2 HZ2
  obtain ⟨x1, x2, x3, x4⟩ := HLG.out.txt
  have hlen : st.txt.length ≤ 2000 := by rw [x1]; have := txtE_len x4; have := x3.2.1; omega
  have HX1 := Lib.hid x1
  clear x1 x2 x3 x4
  generalize st.txt = T at *
  by_cases hn0 : N < 0
  · go_wp2_with fail
    go_ret
    exact ⟨rfl, HB3.out⟩
  obtain ⟨i, rfl⟩ : ∃ i : Nat, N = i := ⟨N.toNat, by omega⟩
  by_cases hnT : (T.length : Int) ≤ (i : Int)
  · go_wp2_with fail
    go_ret
    exact ⟨rfl, HB3.out⟩
  have hiT : i < T.length := by omega
  have hiT2 : (i : Int) < (T.length : Int) := by omega
  by_cases hb : bu T i = 10
  · have q0 : (bu T i).toNat = 10 := by rw [hb]; rfl
    have q1 : ((bu T i).toNat : Int) = 10 := by omega
    clear hb
    go_wp2_with fail
    go_ret
    exact ⟨rfl, HB3.out⟩
  have q0 : (bu T i).toNat ≠ 10 := fun e => hb (UInt8.toNat_inj.1 e)
  have q1 : ¬ ((bu T i).toNat : Int) = 10 := by omega
  have q2 : (((bu T i).toNat : Int) == 10) = false := by simpa using q1
  have q3 : ((bu T i).toNat == 10) = false := by simpa using q0
  have HBB := Lib.hid hb
  clear hb
  by_cases hx : x = 10
  · have r0 : x.toNat = 10 := by rw [hx]; rfl
    have r1 : (x.toNat : Int) = 10 := by omega
    clear hx
    go_wp2_with fail
    go_ret
    exact ⟨rfl, HB3.out⟩
  have r0 : x.toNat ≠ 10 := fun e => hx (UInt8.toNat_inj.1 e)
  have r1 : ¬ (x.toNat : Int) = 10 := by omega
  have r2 : ((x.toNat : Int) == 10) = false := by simpa using r1
  have r3 : (x.toNat == 10) = false := by simpa using r0
  have HXX := Lib.hid hx
  clear hx
  by_cases hxb : bu T i = x
  · have s0 : (bu T i).toNat = x.toNat := by rw [hxb]
    have s1 : ((bu T i).toNat : Int) = (x.toNat : Int) := by omega
    clear hxb
    go_wp2_with fail
    go_ret
    exact ⟨rfl, HB3.out⟩
  have s0 : (bu T i).toNat ≠ x.toNat := fun e => hxb (UInt8.toNat_inj.1 e)
  have s1 : ¬ ((bu T i).toNat : Int) = (x.toNat : Int) := by omega
  have s2 : (((bu T i).toNat : Int) == (x.toNat : Int)) = false := by simpa using s1
  have s3 : ((bu T i).toNat == x.toNat) = false := by simpa using s0
  have HXB := Lib.hid (show x ≠ bu T i from fun e => hxb e.symm)
  clear hxb
  go_wp2_with fail
  clear q0 q1 q2 q3 r0 r1 r2 r3 s0 s1 s2 s3
  go_loopg [11, 12] i (fun f lv kv wr => ∃ k : Nat, k + f = i ∧ kv = .int .i64 (k : Int) ∧ lv = .int .i64 (((ends (T.take k) : Nat) : Int) + 1) ∧ wr = w3)
  case atStart => exact ⟨0, by omega, rfl, by simp [ends], rfl⟩
  case round =>
    obtain ⟨k, hkf, rfl, rfl, rfl⟩ := hrel
    have hee : ends (T.take k) ≤ 2000 := by
      have h1 : ends (T.take k) ≤ (T.take k).length := List.countP_le_length
      have h2 : (T.take k).length ≤ T.length := by rw [List.length_take]; omega
      omega
    by_cases hk : k < i
    · obtain ⟨f, rfl⟩ : ∃ f, gk = f + 1 := ⟨gk - 1, by omega⟩
      have hst := ends_more (l := T) (i := k) (by omega)
      have f1 : IntKind.i64.wrap ((k : Int) + 1) = (k : Int) + 1 := i64_in _ (by omega)
      have f2 : (k : Int) < (T.length : Int) := by omega
      have f3 : k < T.length := by omega
      by_cases hb : bu T k = 10
      · rw [if_pos hb] at hst
        have HST := Lib.hid hst
        clear hst
        have q0 : (bu T k).toNat = 10 := by rw [hb]; rfl
        have q1 : ((bu T k).toNat : Int) = 10 := by omega
        generalize ends (T.take k) = E at *
        have f4 : IntKind.i64.wrap ((E : Int) + 1 + 1) = (E : Int) + 1 + 1 := i64_in _ (by omega)
        clear hb
        go_wp2_with fail
        go_roundg f
        case measure => omega
        case rel => exact ⟨k + 1, by omega, by simp, by rw [HST.out]; exact congrArg (Value.int .i64) (by omega), rfl⟩
      · rw [if_neg hb] at hst
        have HST := Lib.hid hst
        clear hst
        have q0 : (bu T k).toNat ≠ 10 := fun e => hb (UInt8.toNat_inj.1 e)
        have q1 : ¬ ((bu T k).toNat : Int) = 10 := by omega
        have q2 : (((bu T k).toNat : Int) == 10) = false := by simpa using q1
        have q3 : ((bu T k).toNat == 10) = false := by simpa using q0
        generalize ends (T.take k) = E at *
        clear hb
        go_wp2_with fail
        go_roundg f
        case measure => omega
        case rel => exact ⟨k + 1, by omega, by simp, by rw [HST.out]; simp, rfl⟩
    · obtain rfl : k = i := by omega
      have hx1 := str_to T k
      have hx2 := str_from T (k + 1)
      have hset : T.take k ++ x :: T.drop (k + 1) = T.set k x := by rw [List.set_eq_take_append_cons_drop, if_pos hiT]
      have hl1 : (T.take k).length = k := by rw [List.length_take]; omega
      have hl2 : (T.drop (k + 1)).length = T.length - (k + 1) := List.length_drop ..
      have hmin : min k T.length = k := by omega
      have f1 : IntKind.i64.wrap ((k : Int) + 1) = (k : Int) + 1 := i64_in _ (by omega)
      have f2 : (0 : Int) ≤ (k : Int) := by omega
      have f3 : (k : Int) ≤ (T.length : Int) := by omega
      have f4 : (0 : Int) ≤ (k : Int) + 1 := by omega
      have f5 : (k : Int) + 1 ≤ (T.length : Int) := by omega
      have f6 : ((k : Int) + 1).toNat = k + 1 := by omega
      have nb1 : ¬ 9223372036854775807 < k + 1 := by omega
      have nb2 : ¬ 9223372036854775807 < k + 1 + (T.length - (k + 1)) := by omega
      have nb3 : ¬ 9223372036854775807 < k + (T.length - (k + 1) + 1) := by omega
      have HW4 : Hid (Below w.heap.size w (wr.alloc (.cells #[.int .u8 (x.toNat : Int)] 5)).drew) := Lib.hid ((HB3.out.alloc HB3.out.size _).drew)
      have HOP := Lib.hid (fun W4 (h : Below w.heap.size w W4) => open_gen (T.set k x) W4 (by rw [List.length_set]; omega) (HT.out.below h (Nat.le_refl _)) (HM.out.below h HM.out.lt) (HE.out.below h HE.out.lt.1 HE.out.lt.2))
      have HOT : Hid (∀ (W W' : World) (e : Ending), OpenSays W (T.set k x) e W' → ∃ q : Int, (q = 2 ∨ q = 6) ∧ e = .returned (.tuple #[.pointer none, .int .i64 ((ends (T.take k) : Nat) + 1 : Int), errV q])) := Lib.hid fun W W' e h => by
        have hb := HBB.out; have hxb := HXB.out
        rw [HX1.out] at hiT hb hxb h ⊢
        exact opens_turned HLG.out hiT hb HXX.out hxb h
      generalize T.set k x = T2 at *
      generalize ends (T.take k) = j at *
      have hcv : (convert 38 9 (.slice (some ⟨wr.heap.size, 0, none⟩) 1 1)).run Tryz.prog (wr.alloc (.cells #[.int .u8 (x.toNat : Int)] 5)).drew = .ok (S [x]) (wr.alloc (.cells #[.int .u8 (x.toNat : Int)] 5)).drew := run_convert_bytes_back (P := Tryz.prog) (wr.alloc (.cells #[.int .u8 (x.toNat : Int)] 5)).drew 38 9 5 ⟨wr.heap.size, 0, none⟩ 1 [x] Tryz.underlying38 Tryz.underlying5 Tryz.underlying9 (fun j hj => by
        obtain rfl : j = 0 := by simpa using hj
        show (wr.alloc _).cell? _ = _
        simp [Addr.add, World.cell?_alloc_new])
      go_wp2_with fail
      go_region_with (refine (HOP.out _ HW4.out).mono ?_; rintro e w4 ⟨ho, hb4⟩; obtain ⟨q, hq, rfl⟩ := HOT.out _ _ _ ho)
      all_goals
        have HB4 := Lib.hid (HW4.out.trans (hb4.mono HW4.out.size))
        clear hb4 ho hcv hx1 hx2 hset hl1 hl2 hmin f1 f2 f3 f4 f5 f6 nb1 nb2 nb3
        have HE2 := Lib.hid (fun W (h : Below w.heap.size w W) => error_any q 2 W (HG0.out.below h (Nat.le_refl _)))
        have HE6 := Lib.hid (fun W (h : Below w.heap.size w W) => error_any q 6 W (HG0.out.below h (Nat.le_refl _)))
        rcases hq with rfl | rfl
        · go_wp2_with fail
          refine (HE2.out _ HB4.out).mono ?_
          rw [show ((2 : Int) == 2) = true from rfl]
          rintro e w5 ⟨rfl, hb5⟩
          have HB5 := Lib.hid (HB4.out.trans (hb5.mono HB4.out.size))
          clear hb5
          go_wp2_with fail
          go_ret
          exact ⟨rfl, HB5.out⟩
        · go_wp2_with fail
          refine (HE2.out _ HB4.out).mono ?_
          rw [show ((6 : Int) == 2) = false from rfl]
          rintro e w5 ⟨rfl, hb5⟩
          have HB5 := Lib.hid (HB4.out.trans (hb5.mono HB4.out.size))
          clear hb5
          go_wp2_with fail
          refine (HE6.out _ HB5.out).mono ?_
          rw [show ((6 : Int) == 6) = true from rfl]
          rintro e w6 ⟨rfl, hb6⟩
          have HB6 := Lib.hid (HB5.out.trans (hb6.mono HB5.out.size))
          clear hb6
          go_wp2_with fail
          go_ret
          exact ⟨rfl, HB6.out⟩
end Go.Proofs.YteoofkinmilckaaGreatDoor
