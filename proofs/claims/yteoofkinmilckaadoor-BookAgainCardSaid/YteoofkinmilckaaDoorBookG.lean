/- The law BookAgain: its walk. Condition: internal/strconv.uint64pow10 reads as the library's text lays it; internal/bytealg.MaxLen holds an integer. -/
import Derived.Test.YteoofkinmilckaaDoorBookT
namespace Go.Proofs.YteoofkinmilckaaDoor
open Go.RowKit IntWalk

set_option maxRecDepth 100000 in
set_option maxHeartbeats 20000000 in
theorem bookAgain_walk (w : World) (A A2 : Option Addr) (n c m c2 : Nat) (L : List Int) (W : List (List UInt8)) (at_ : Int) (x : List UInt8) (ht : TG w) (hm : ML w)
    (hL : Ints w w.heap.size A n L) (hW : Strs w w.heap.size A2 m W) (hW9 : ∀ x ∈ W, x.length ≤ 9223372036854775807) (hx9 : x.length ≤ 9223372036854775807) :
    Calls Tryd.prog 7 #[.slice A n c, .slice A2 m c2, .int .i64 at_, S x] w fun e w' => e = .returned (.bool true) ∧ Below w.heap.size w w' := by
  have HL := Lib.hid hL; have HW := Lib.hid hW; have HW9 := Lib.hid hW9; have HT := Lib.hid ht; have HM := Lib.hid hm
  clear hL hW hW9 ht hm
  go_enter Tryd.func7, Tryd.ntmps7
  go_wp2_with fail
  refine (bookFact_any w HT.out).mono ?_
  rintro e w1 ⟨rfl, hb1⟩
  have HB1 := Lib.hid hb1
  have HT1 := Lib.hid (HT.out.below hb1 (Nat.le_refl _))
  have HL1 := Lib.hid ((HL.out.below hb1).more hb1.size)
  have HW1 := Lib.hid ((HW.out.below hb1).more hb1.size)
  have HSZ := Lib.hid hb1.size
  clear hb1
  go_wp2_with fail
  refine (put_all nF w1 A A2 n c m c2 L W HT1.out HL1.out HW1.out HW9.out (fun _ _ h => by cases h)).mono ?_
  rintro e w2 ⟨rfl, hk2, hb2⟩
  have HLG := Lib.hid (stS_logs L W (putK n m))
  generalize stEv L W (putK n m) = es at *
  generalize stS L W (putK n m) = st at *
  have HB2 := Lib.hid (HB1.out.trans (hb2.mono HSZ.out))
  have HZ2 := Lib.hid hb2.size
  have HLT := Lib.hid HT1.out.lt
  have HK2 := Lib.hid hk2
  clear hb2 hk2 HL1 HW1 HB1 HT1
  generalize w1.heap.size = B at *
  go_wp2_with fail
  refine (text_all nF B B st.now st.txt st.many w2 HK2.out HZ2.out).mono ?_
  rintro e w3 ⟨rfl, hk3, hb3⟩
  have HB3 := Lib.hid (HB2.out.trans (hb3.mono HSZ.out))
  have HK3 := Lib.hid hk3
  have HZ3 := Lib.hid (Nat.le_trans HZ2.out hb3.size)
  clear hk3 hb3 HK2 HB2
  obtain ⟨x1, x2, x3, x4⟩ := HLG.out.txt
  have HOP := Lib.hid (open_any es st [] w3 HLG.out (by simp) (by rw [List.append_nil]; have := txtE_len x4; have := x3.2.1; omega) (HT.out.below HB3.out (Nat.le_refl _)) (HM.out.below HB3.out HM.out.lt))
  rw [List.append_nil, ← x1] at HOP
  have HSM := Lib.hid x3
  clear x1 x2 x3 x4
  go_wp2_with fail
  refine HOP.out.mono ?_
  rintro e w4 ⟨⟨bo, rfl, ho⟩, hb4⟩
  have H4 := Lib.hid (Two.make HK3.out hb4 ho)
  have HB4 := Lib.hid (HB3.out.trans (hb4.mono HB3.out.size))
  have HBo := Lib.hid HB3.out.size
  have HZ4 := Lib.hid (Nat.le_trans HZ3.out hb4.size)
  have HZo := Lib.hid hb4.size
  have HLo := Lib.hid (Nat.lt_of_lt_of_le HT.out.lt HB3.out.size)
  clear hb4 ho HOP HK3 HB3
  generalize w3.heap.size = Bo at *
  go_wp2_with fail
  refine (H4.out.text2 HZo.out).mono ?_
  rintro e w5 ⟨rfl, h5, hb5⟩
  have H5 := Lib.hid h5
  have HB5 := Lib.hid (HB4.out.trans (hb5.mono HBo.out))
  have HZ5 := Lib.hid (Nat.le_trans HZ4.out hb5.size)
  have HZo5 := Lib.hid (Nat.le_trans HZo.out hb5.size)
  clear h5 hb5 H4 HB4 HZ4 HZo
  go_wp2_with fail
  refine (H5.out.text HZ5.out).mono ?_
  rintro e w6 ⟨rfl, h6, hb6⟩
  have H6 := Lib.hid h6
  have HB6 := Lib.hid (HB5.out.trans (hb6.mono HSZ.out))
  have HZ6 := Lib.hid (Nat.le_trans HZ5.out hb6.size)
  have HZo6 := Lib.hid (Nat.le_trans HZo5.out hb6.size)
  clear h6 hb6 H5 HB5 HZ5 HZo5
  go_wp2_with fail
  refine H6.out.now2.mono ?_
  rintro e w' ⟨rfl, rfl⟩
  go_wp2_with fail
  refine H6.out.now.mono ?_
  rintro e w' ⟨rfl, rfl⟩
  go_wp2_with fail
  refine (H6.out.put x at_ (HT.out.below HB6.out (Nat.le_refl _)) HSM.out hx9 HZ6.out HLT.out).mono ?_
  rintro e w7 ⟨rfl, h7, hb7⟩
  have H7 := Lib.hid h7
  have HB7 := Lib.hid (HB6.out.trans (hb7.mono HSZ.out))
  have HZ7 := Lib.hid (Nat.le_trans HZ6.out hb7.size)
  have HZo7 := Lib.hid (Nat.le_trans HZo6.out hb7.size)
  clear h7 hb7 H6 HB6 HZ6 HZo6
  go_wp2_with fail
  refine (H7.out.put2 x at_ (HT.out.below HB7.out (Nat.le_refl _)) HSM.out hx9 HZo7.out HLo.out).mono ?_
  rintro e w8 ⟨rfl, h8, hb8⟩
  have H8 := Lib.hid h8
  have HB8 := Lib.hid (HB7.out.trans (hb8.mono HBo.out))
  have HZ8 := Lib.hid (Nat.le_trans HZ7.out hb8.size)
  have HZo8 := Lib.hid (Nat.le_trans HZo7.out hb8.size)
  clear h8 hb8 H7 HB7 HZ7 HZo7
  generalize (putS st at_ x).2 = s9 at *
  generalize (putS st at_ x).1 = e9 at *
  have HZ9 : Hid (B ≤ w8.drew.heap.size) := HZ8
  have HZo9 : Hid (Bo ≤ w8.drew.heap.size) := HZo8
  have H9 := Lib.hid H8.out.drew
  have HB9 := Lib.hid HB8.out.drew
  by_cases he : e9 = 0
  all_goals
    first
      | (subst he; rw [show errV 0 = .nilIface from rfl])
      | rw [err_ne he]
    go_wp2_with fail
    go_region_with (first
      | (refine (H9.out.text2 HZo9.out).mono ?_; rintro e w9 ⟨rfl, h9, hb9⟩)
      | (refine (h9.text (Nat.le_trans HZ9.out hb9.size)).mono ?_; rintro e w10 ⟨rfl, h10, hb10⟩)
      | (refine h10.now2.mono ?_; rintro e w11 ⟨rfl, rfl⟩)
      | (refine h10.now.mono ?_; rintro e w12 ⟨rfl, rfl⟩))
    all_goals
      have HF := Lib.hid ((HB9.out.trans (hb9.mono HBo.out)).trans (hb10.mono HSZ.out))
      clear h9 hb9 h10 hb10
      go_wp2_with fail
      go_ret
      exact ⟨rfl, HF.out⟩
end Go.Proofs.YteoofkinmilckaaDoor
