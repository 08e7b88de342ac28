/- package book's line, at a line of a log. Condition: the table of internal/strconv.uint64pow10 reads as the library's text lays it; internal/bytealg.MaxLen holds an integer. -/
import Derived.Test.YtgmmlblefealjaaDoorBookN
namespace Go.Proofs.YtgmmlblefealjaaDoor
open Go.RowKit IntWalk
attribute [local go_sem] byte_at str_app
attribute [local go_sem ↓] Go.wp_at_zero Go.wp_at_succ

/-- internal/bytealg.MaxLen holds an integer. -/
def ML (w : World) : Prop := ∃ m : Int, w.cell? ⟨0, 0, none⟩ = some (.int .i64 m)
theorem ML.lt {w : World} (h : ML w) : 0 < w.heap.size := by
  obtain ⟨m, h⟩ := h
  exact World.block_lt_of_cell? w _ h
theorem ML.below {w w' : World} {B : Nat} (h : ML w) (hb : Below B w w') (hB : 0 < B) : ML w' := by
  obtain ⟨m, h⟩ := h
  exact ⟨m, (hb.cell (p := ⟨0, 0, none⟩) hB).trans h⟩
theorem lo_ge {x : List UInt8} (h : x.all lo = true) : ∀ c ∈ x, c ≠ 32 := fun c hc => by
  have := of_decide_eq_true ((List.all_eq_true.1 h) c hc)
  exact ne_of_ge this.1 (by decide)
theorem dd_no (n : Nat) : ∀ c ∈ Lib.decDigits n, c ≠ 32 := fun c hc => ne_of_ge (dd_mem n c hc).1 (by decide)
/-- strings.Split of three words. -/
theorem split_any (a b c : List UInt8) (ha : ∀ x ∈ a, x ≠ 32) (hb : ∀ x ∈ b, x ≠ 32) (hc : ∀ x ∈ c, x ≠ 32) (w : World) (hm : ML w) (hl : a.length + b.length + c.length ≤ 1000) :
    Calls Tryd.prog 45 #[S (a ++ 32 :: (b ++ 32 :: c)), S [32]] w fun e w' => e = .returned (.slice (some ⟨w.heap.size, 0, none⟩) 3 3) ∧ w' = w.alloc (.cells #[S a, S b, S c] 9) := by
  obtain ⟨m, hm⟩ := hm
  have h := Tryd.strings_Split ⟨(a ++ 32 :: (b ++ 32 :: c)).toArray⟩ ⟨#[32]⟩ m w (by simp [ByteArray.size]; omega) hm (by decide)
  obtain ⟨h1, h2⟩ := split3 a b c ha hb hc
  rw [h1, h2] at h
  exact h

theorem three_at' {w : World} {g : Nat} {a b c : Value} {t : TypeId} (h : w.heap[g]? = some (.cells #[a, b, c] t)) : w.cell? ⟨g, 0, none⟩ = some a ∧ w.cell? ⟨g, 1, none⟩ = some b ∧ w.cell? ⟨g, 2, none⟩ = some c ∧ True :=
  ⟨by rw [Lib.cell_of_heap h]; rfl, by rw [Lib.cell_of_heap h]; rfl, by rw [Lib.cell_of_heap h]; rfl, trivial⟩

set_option maxRecDepth 100000 in
set_option maxHeartbeats 2000000 in
theorem line_put (F : Nat → Option Obj) (B b : Nat) (s : BS) (a : Nat) (x : List UInt8) (w : World) (h : Bks F B b s w) (ht : TG w) (hm : ML w) (hs : Smalls s) (hG : evG (.put a x)) (hBw : B ≤ w.heap.size) (hB0 : 1 < B) (hB1 : 0 < B) :
    Calls Tryd.prog 31 #[.pointer (some ⟨b, 0, none⟩), S (evT (.put a x))] w fun e w' => e = .returned (errV (evA s (.put a x)).1) ∧ Below B w w' ∧ Bks F B b (evA s (.put a x)).2 w' := by
  have hG0 := hG
  obtain ⟨hg1, hg2, hg3⟩ := hG
  have hsz := evT_len hG0
  have hsum := sumM_lt (evL (.put a x))
  have hT : evT (.put a x) = evL (.put a x) ++ 32 :: Lib.decDigits (sumM (evL (.put a x))) := by unfold evT; simp
  have hL : evL (.put a x) = [112] ++ 32 :: (Lib.decDigits a ++ 32 :: x) := by rw [evL_eq]; simp [evW]
  have hli := lastIdx_at (evL (.put a x)) _ (dd_no (sumM (evL (.put a x))))
  rw [← hT] at hli
  have hs1 : (S ((evT (.put a x)).drop ((evL (.put a x)).length + 1))) = S (Lib.decDigits (sumM (evL (.put a x)))) := by
    rw [hT, show evL (.put a x) ++ 32 :: Lib.decDigits (sumM (evL (.put a x))) = (evL (.put a x) ++ [32]) ++ Lib.decDigits (sumM (evL (.put a x))) by simp, show (evL (.put a x)).length + 1 = (evL (.put a x) ++ [32]).length by simp, List.drop_left]
  have hs2 : (evT (.put a x)).take (evL (.put a x)).length = evL (.put a x) := by rw [hT, List.take_left]
  have hlen : (evL (.put a x)).length < (evT (.put a x)).length := by rw [hT]; simp
  have HLI := Lib.hid (Tryd.strings_LastIndexByte ⟨(evT (.put a x)).toArray⟩ 32 (by simp [ByteArray.size]; omega))
  rw [hli] at HLI
  have HSP := Lib.hid (fun W (hW : ML W) => split_any [112] (Lib.decDigits a) x (by decide) (dd_no a) (lo_ge hg3) W hW (by have := dd_len 1 a (by omega); skip; simp only [List.length_cons, List.length_nil]; omega))
  rw [← hL] at HSP
  have HSU := Lib.hid (sum_any (evL (.put a x)))
  have hx1 := str_from (evT (.put a x)) ((evL (.put a x)).length + 1)
  have hx2 := str_to (evT (.put a x)) (evL (.put a x)).length
  rw [hs2] at hx2
  rw [show (evT (.put a x)).drop ((evL (.put a x)).length + 1) = Lib.decDigits (sumM (evL (.put a x))) by simpa using hs1] at hx1
  clear hli hs1 hs2 hT hL
  have HEV : Hid (evA s (.put a x) = putS s a x) := Lib.hid rfl
  generalize evA s (.put a x) = R at *
  generalize evT (.put a x) = T at *
  generalize evL (.put a x) = P at *
  have HNS := Lib.hid (fun W (hW : TG W) => number_dec (sumM P) W (by omega) hW)
  generalize sumM P = u at *
  generalize Lib.decDigits u = U at *
  have HNA := Lib.hid (fun W (hW : TG W) => number_dec a W (by omega) hW)
  skip
  generalize hda : Lib.decDigits a = DA at *
  clear hda
  have HH := Lib.hid h; have HT := Lib.hid ht; have HM := Lib.hid hm
  clear h ht hm hG0
  have f1 : IntKind.i64.wrap ((P.length : Int) + 1) = (P.length : Int) + 1 := i64_in _ (by omega)
  have f2 : (0 : Int) ≤ (P.length : Int) + 1 := by omega
  have f3 : (P.length : Int) + 1 ≤ (T.length : Int) := by omega
  have f4 : ((P.length : Int) + 1).toNat = P.length + 1 := by omega
  have f5 : ¬ (P.length : Int) < 0 := by omega
  have f6 : (0 : Int) ≤ (P.length : Int) := by omega
  have f7 : (P.length : Int) ≤ (T.length : Int) := by omega
  have hP9 : P.length ≤ 1000 := by omega
  have hlt := HH.out.lt
  go_enter Tryd.func31, Tryd.ntmps31
  go_wp2_with fail
  refine (HLI.out _).mono ?_
  rintro e w' ⟨rfl, rfl⟩
  go_wp2_with fail
  refine (HNS.out _ HT.out).mono ?_
  rintro e w1 ⟨rfl, hb1⟩
  have HB1 := Lib.hid (hb1.mono hBw)
  have HH1 := Lib.hid (HH.out.below hb1)
  clear hb1
  go_wp2_with fail
  refine (HSU.out _ hP9).mono ?_
  rintro e w2 ⟨rfl, hb2⟩
  have HB2 := Lib.hid (HB1.out.trans (hb2.mono (Nat.le_trans hBw HB1.out.size)))
  have HH2 := Lib.hid (HH1.out.below hb2)
  clear hb2 HB1 HH1
  go_wp2_with fail
  refine (HSP.out _ (HM.out.below HB2.out hB1)).mono ?_
  rintro e w' ⟨rfl, rfl⟩
  have HB3 := Lib.hid (HB2.out.alloc (Nat.le_trans hBw HB2.out.size) (.cells #[S [112], S DA, S x] 9))
  have HH3 := Lib.hid (HH2.out.below ((Below.refl _ w2).alloc (Nat.le_refl _) (.cells #[S [112], S DA, S x] 9)))
  have hg3 := heap_alloc_new w2 (.cells #[S [112], S DA, S x] 9)
  generalize w2.alloc (.cells #[S [112], S DA, S x] 9) = w3 at *
  generalize w2.heap.size = g at *
  clear HB2 HH2
  obtain ⟨c0, c1, c2, _⟩ := three_at' hg3
  have HG3 := Lib.hid hg3
  clear hg3
  go_wp2_with fail
  refine (HNA.out _ (HT.out.keep HB3.out hB0)).mono ?_
  rintro e w4 ⟨rfl, hb4⟩
  have HB4 := Lib.hid (HB3.out.trans (hb4.mono (Nat.le_trans hBw HB3.out.size)))
  have HH4 := Lib.hid (HH3.out.below hb4)
  have hg4 := (hb4.block g (Array.getElem?_eq_some_iff.1 HG3.out).1).trans HG3.out
  obtain ⟨d0, d1, d2, _⟩ := three_at' hg4
  have HG4 := Lib.hid hg4
  clear hb4 hg4 HB3 HH3
  go_wp2_with fail
  refine (put_s F B b s x a w4 HH4.out (HT.out.keep HB4.out hB0) hs (by omega) (Nat.le_trans hBw HB4.out.size) hB0).mono ?_
  rintro e w5 ⟨rfl, hb5, hk5⟩
  have HB5 := Lib.hid (HB4.out.trans hb5)
  have HK5 := Lib.hid hk5
  clear hb5 hk5
  rw [← HEV.out]
  go_wp2_with fail
  go_ret
  exact ⟨rfl, HB5.out, by rw [HEV.out]; exact HK5.out⟩

set_option maxRecDepth 100000 in
set_option maxHeartbeats 2000000 in
theorem line_cut (F : Nat → Option Obj) (B b : Nat) (s : BS) (a k : Nat) (w : World) (h : Bks F B b s w) (ht : TG w) (hm : ML w) (hs : Smalls s) (hG : evG (.cut a k)) (hBw : B ≤ w.heap.size) (hB0 : 1 < B) (hB1 : 0 < B) :
    Calls Tryd.prog 31 #[.pointer (some ⟨b, 0, none⟩), S (evT (.cut a k))] w fun e w' => e = .returned (errV (evA s (.cut a k)).1) ∧ Below B w w' ∧ Bks F B b (evA s (.cut a k)).2 w' := by
  have hG0 := hG
  obtain ⟨hg1, hg2⟩ := hG
  have hsz := evT_len hG0
  have hsum := sumM_lt (evL (.cut a k))
  have hT : evT (.cut a k) = evL (.cut a k) ++ 32 :: Lib.decDigits (sumM (evL (.cut a k))) := by unfold evT; simp
  have hL : evL (.cut a k) = [99] ++ 32 :: (Lib.decDigits a ++ 32 :: (Lib.decDigits k)) := by rw [evL_eq]; simp [evW]
  have hli := lastIdx_at (evL (.cut a k)) _ (dd_no (sumM (evL (.cut a k))))
  rw [← hT] at hli
  have hs1 : (S ((evT (.cut a k)).drop ((evL (.cut a k)).length + 1))) = S (Lib.decDigits (sumM (evL (.cut a k)))) := by
    rw [hT, show evL (.cut a k) ++ 32 :: Lib.decDigits (sumM (evL (.cut a k))) = (evL (.cut a k) ++ [32]) ++ Lib.decDigits (sumM (evL (.cut a k))) by simp, show (evL (.cut a k)).length + 1 = (evL (.cut a k) ++ [32]).length by simp, List.drop_left]
  have hs2 : (evT (.cut a k)).take (evL (.cut a k)).length = evL (.cut a k) := by rw [hT, List.take_left]
  have hlen : (evL (.cut a k)).length < (evT (.cut a k)).length := by rw [hT]; simp
  have HLI := Lib.hid (Tryd.strings_LastIndexByte ⟨(evT (.cut a k)).toArray⟩ 32 (by simp [ByteArray.size]; omega))
  rw [hli] at HLI
  have HSP := Lib.hid (fun W (hW : ML W) => split_any [99] (Lib.decDigits a) (Lib.decDigits k) (by decide) (dd_no a) (dd_no k) W hW (by have := dd_len 1 a (by omega); have := dd_len 1 k (by omega); simp only [List.length_cons, List.length_nil]; omega))
  rw [← hL] at HSP
  have HSU := Lib.hid (sum_any (evL (.cut a k)))
  have hx1 := str_from (evT (.cut a k)) ((evL (.cut a k)).length + 1)
  have hx2 := str_to (evT (.cut a k)) (evL (.cut a k)).length
  rw [hs2] at hx2
  rw [show (evT (.cut a k)).drop ((evL (.cut a k)).length + 1) = Lib.decDigits (sumM (evL (.cut a k))) by simpa using hs1] at hx1
  clear hli hs1 hs2 hT hL
  have HEV : Hid (evA s (.cut a k) = cutS s a k) := Lib.hid rfl
  generalize evA s (.cut a k) = R at *
  generalize evT (.cut a k) = T at *
  generalize evL (.cut a k) = P at *
  have HNS := Lib.hid (fun W (hW : TG W) => number_dec (sumM P) W (by omega) hW)
  generalize sumM P = u at *
  generalize Lib.decDigits u = U at *
  have HNA := Lib.hid (fun W (hW : TG W) => number_dec a W (by omega) hW)
  have HNK := Lib.hid (fun W (hW : TG W) => number_dec k W (by omega) hW)
  generalize hdk : Lib.decDigits k = DK at *
  clear hdk
  generalize hda : Lib.decDigits a = DA at *
  clear hda
  have HH := Lib.hid h; have HT := Lib.hid ht; have HM := Lib.hid hm
  clear h ht hm hG0
  have f1 : IntKind.i64.wrap ((P.length : Int) + 1) = (P.length : Int) + 1 := i64_in _ (by omega)
  have f2 : (0 : Int) ≤ (P.length : Int) + 1 := by omega
  have f3 : (P.length : Int) + 1 ≤ (T.length : Int) := by omega
  have f4 : ((P.length : Int) + 1).toNat = P.length + 1 := by omega
  have f5 : ¬ (P.length : Int) < 0 := by omega
  have f6 : (0 : Int) ≤ (P.length : Int) := by omega
  have f7 : (P.length : Int) ≤ (T.length : Int) := by omega
  have hP9 : P.length ≤ 1000 := by omega
  have hlt := HH.out.lt
  go_enter Tryd.func31, Tryd.ntmps31
  go_wp2_with fail
  refine (HLI.out _).mono ?_
  rintro e w' ⟨rfl, rfl⟩
  go_wp2_with fail
  refine (HNS.out _ HT.out).mono ?_
  rintro e w1 ⟨rfl, hb1⟩
  have HB1 := Lib.hid (hb1.mono hBw)
  have HH1 := Lib.hid (HH.out.below hb1)
  clear hb1
  go_wp2_with fail
  refine (HSU.out _ hP9).mono ?_
  rintro e w2 ⟨rfl, hb2⟩
  have HB2 := Lib.hid (HB1.out.trans (hb2.mono (Nat.le_trans hBw HB1.out.size)))
  have HH2 := Lib.hid (HH1.out.below hb2)
  clear hb2 HB1 HH1
  go_wp2_with fail
  refine (HSP.out _ (HM.out.below HB2.out hB1)).mono ?_
  rintro e w' ⟨rfl, rfl⟩
  have HB3 := Lib.hid (HB2.out.alloc (Nat.le_trans hBw HB2.out.size) (.cells #[S [99], S DA, S DK] 9))
  have HH3 := Lib.hid (HH2.out.below ((Below.refl _ w2).alloc (Nat.le_refl _) (.cells #[S [99], S DA, S DK] 9)))
  have hg3 := heap_alloc_new w2 (.cells #[S [99], S DA, S DK] 9)
  generalize w2.alloc (.cells #[S [99], S DA, S DK] 9) = w3 at *
  generalize w2.heap.size = g at *
  clear HB2 HH2
  obtain ⟨c0, c1, c2, _⟩ := three_at' hg3
  have HG3 := Lib.hid hg3
  clear hg3
  go_wp2_with fail
  refine (HNA.out _ (HT.out.keep HB3.out hB0)).mono ?_
  rintro e w4 ⟨rfl, hb4⟩
  have HB4 := Lib.hid (HB3.out.trans (hb4.mono (Nat.le_trans hBw HB3.out.size)))
  have HH4 := Lib.hid (HH3.out.below hb4)
  have hg4 := (hb4.block g (Array.getElem?_eq_some_iff.1 HG3.out).1).trans HG3.out
  obtain ⟨d0, d1, d2, _⟩ := three_at' hg4
  have HG4 := Lib.hid hg4
  clear hb4 hg4 HB3 HH3
  go_wp2_with fail
  refine (HNK.out _ (HT.out.keep HB4.out hB0)).mono ?_
  rintro e w5 ⟨rfl, hb5⟩
  have HB5 := Lib.hid (HB4.out.trans (hb5.mono (Nat.le_trans hBw HB4.out.size)))
  have HH5 := Lib.hid (HH4.out.below hb5)
  clear hb5
  go_wp2_with fail
  refine (cut_s F B b s a k w5 HH5.out (HT.out.keep HB5.out hB0) hs hB0).mono ?_
  rintro e w6 ⟨rfl, hb6, hk6⟩
  have HB6 := Lib.hid (HB5.out.trans hb6)
  have HK6 := Lib.hid hk6
  clear hb6 hk6
  rw [← HEV.out]
  go_wp2_with fail
  go_ret
  exact ⟨rfl, HB6.out, by rw [HEV.out]; exact HK6.out⟩

/-- A change's line, read. -/
theorem line_ev (F : Nat → Option Obj) (B b : Nat) (s : BS) (e : Ev) (w : World) (h : Bks F B b s w) (ht : TG w) (hm : ML w) (hs : Smalls s) (hG : evG e) (hBw : B ≤ w.heap.size) (hB0 : 1 < B) (hB1 : 0 < B) :
    Calls Tryd.prog 31 #[.pointer (some ⟨b, 0, none⟩), S (evT e)] w fun r w' => r = .returned (errV (evA s e).1) ∧ Below B w w' ∧ Bks F B b (evA s e).2 w' := by
  cases e with
  | put a x => exact line_put F B b s a x w h ht hm hs hG hBw hB0 hB1
  | cut a k => exact line_cut F B b s a k w h ht hm hs hG hBw hB0 hB1
end Go.Proofs.YtgmmlblefealjaaDoor
