/- The walks over a book's down, Put, Cut, New, Now. Condition: the table of internal/strconv.uint64pow10 reads as the library's text lays it. -/
import Derived.Test.YtgmmlblefealjaaDoorBookW
import Derived.StillTailTactics
namespace Go.Proofs.YtgmmlblefealjaaDoor
open Go.RowKit IntWalk
attribute [local go_sem] byte_at str_app
attribute [local go_sem ↓] Go.wp_at_zero Go.wp_at_succ

theorem TG.keep {w w' : World} {B : Nat} (h : TG w) (hb : Below B w w') (hg : 1 < B) : TG w' := by
  unfold TG Lib.TabIs World.var? at *
  rw [tgG] at h ⊢
  simp only [Option.bind_some] at h ⊢
  rw [hb.block _ hg]
  exact h
theorem str_to (a : List UInt8) (k : Nat) : (ByteArray.mk a.toArray).extract 0 k = ByteArray.mk (a.take k).toArray := by
  rw [Lib.extract_eq]; simp
theorem str_from (a : List UInt8) (k : Nat) : (ByteArray.mk a.toArray).extract k a.length = ByteArray.mk (a.drop k).toArray := by
  rw [Lib.extract_eq]
  simp [List.take_of_length_le]
/-- A line's text, and what is put down of it. -/
def lineM (x y z : List UInt8) : List UInt8 := x ++ [32] ++ y ++ [32] ++ z
def downM (l : List UInt8) : List UInt8 := l ++ [32] ++ Lib.itoa (sumM l : Int) ++ [10]
theorem sumM_lt (l : List UInt8) : sumM l < 9973 := Nat.mod_lt _ (by decide)
theorem downM_len (l : List UInt8) : (downM l).length ≤ l.length + 23 := by
  have := itoa_len (sumM l) (by have := sumM_lt l; omega)
  simp only [downM, List.length_append, List.length_cons, List.length_nil]; omega
theorem join3 (x y z : List UInt8) : Lib.join ([ByteArray.mk x.toArray, ByteArray.mk y.toArray, ByteArray.mk z.toArray].map (·.data.toList)) (ByteArray.mk #[32]).data.toList = lineM x y z := by
  simp [Lib.join, lineM]

set_option maxRecDepth 100000 in
set_option maxHeartbeats 2000000 in
theorem down_any (F : Nat → Option Obj) (B b bk : Nat) (now txt x y z : List UInt8) (many : Nat) (w : World) (h : Bk F B b now txt many w) (ht : TG w)
    (hc : ∀ (j : Nat) u, [ByteArray.mk x.toArray, ByteArray.mk y.toArray, ByteArray.mk z.toArray][j]? = some u → w.cell? ⟨bk, 0 + j, none⟩ = some (.string u)) (hbk : bk < w.heap.size)
    (hl : x.length + y.length + z.length ≤ 200) (htx : txt.length ≤ 100000) (hm : many ≤ 100) :
    Calls Tryd.prog 27 #[.pointer (some ⟨b, 0, none⟩), .slice (some ⟨bk, 0, none⟩) 3 3] w fun e w' => e = .returned (.tuple #[]) ∧ Bk F B b now (txt ++ downM (lineM x y z)) (many + 1) w' ∧ Below B w w' := by
  have hj := Tryd.strings_Join bk 0 3 [ByteArray.mk x.toArray, ByteArray.mk y.toArray, ByteArray.mk z.toArray] (ByteArray.mk #[32]) w hc hbk (by simp) (by simp) (by rw [join3]; simp [lineM]; omega)
  rw [join3] at hj
  have hll : (lineM x y z).length ≤ 202 := by simp [lineM]; omega
  obtain ⟨L, hL⟩ : ∃ L, L = lineM x y z := ⟨_, rfl⟩
  rw [← hL] at hj hll ⊢
  clear hL
  have HJ := Lib.hid hj
  have HH := Lib.hid h
  have HT := Lib.hid ht
  have hBl := h.le
  have hlt := h.lt
  clear hj h ht hc
  go_enter Tryd.func27, Tryd.ntmps27
  go_wp2_with fail
  refine HJ.out.mono ?_
  rintro e w1 ⟨rfl, hb1⟩
  have HH1 := Lib.hid (HH.out.below hb1)
  have HT1 := Lib.hid (HT.out.below hb1 (Nat.le_refl _))
  have HB1 := Lib.hid (hb1.mono (Nat.le_of_lt (Nat.lt_of_le_of_lt hBl hlt)))
  clear hb1
  have hsl := sumM_lt L
  have hil := itoa_len (sumM L) (by omega)
  have HD : Hid (downM L = L ++ [32] ++ Lib.itoa (sumM L : Int) ++ [10]) := Lib.hid rfl
  generalize hs : sumM L = s at *
  have HS := Lib.hid hs
  clear hs
  obtain ⟨I, hI⟩ : ∃ I, I = Lib.itoa (s : Int) := ⟨_, rfl⟩
  rw [← hI] at hil HD
  have HI := Lib.hid hI
  clear hI
  go_wp2_with fail
  have HT2 : Hid (TG w1.drew) := HT1
  have HH2 : Hid (Bk F B b now txt many w1.drew) := HH1
  go_region_with (first
    | (refine (sum_any L _ (by omega)).mono ?_; rw [HS.out]; rintro e w5 ⟨rfl, hb5⟩)
    | (refine (itoa_any s w5 (by omega) (HT2.out.below hb5 (Nat.le_refl _))).mono ?_; rw [← HI.out]; rintro e w6 ⟨rfl, hb6⟩)
    | (refine (bkWrite F B b now txt (L ++ 32 :: (I ++ [10])) many w6 ((HH2.out.below hb5).below hb6) (by simp; omega)).mono ?_; rintro e w7 ⟨rfl, hk7, hb7⟩))
  all_goals
    have hB2 : Below B w w1.drew := below_drewN HB1.out 1
    have hlt1 := HH1.out.lt
    have HBF := Lib.hid (((hB2.trans (hb5.mono (by show B ≤ w1.heap.size; omega))).trans (hb6.mono (by have := hb5.size; have e : w1.drew.heap.size = w1.heap.size := rfl; omega))).trans hb7)
    have htx2 : txt ++ (L ++ 32 :: (I ++ [10])) = txt ++ downM L := by rw [HD.out]; simp
    rw [htx2] at hk7
    obtain ⟨p, hp, hk⟩ := hk7
    obtain ⟨_, _, c3, _, _, f3⟩ := hk.cells
    have HF := Lib.hid (show Bk F B b now (txt ++ downM L) (many + 1) (w7.setCell ⟨b, 3, none⟩ (.int .i64 ((many : Int) + 1))) from ⟨p, hp, hk.set_ 3 (.int .i64 ((many : Int) + 1)) p now (many + 1) (fun v => rfl)⟩)
    have HBG := Lib.hid (HBF.out.setCell (p := ⟨b, 3, none⟩) hBl (.int .i64 ((many : Int) + 1)))
    clear hk hp htx2 hB2 hb5 hb6 hb7 hlt1
    go_wp2_with fail
    go_end0
    exact ⟨rfl, HF.out, HBG.out⟩

/-- What is wrong with a word put in, and with a cut. -/
def putE (now : List UInt8) (many : Nat) (at_ : Int) (s : List UInt8) : Int :=
  if ¬ (0 ≤ at_ ∧ at_ ≤ now.length) then 1 else if wordE s ≠ 0 then wordE s else if 24 < now.length + s.length ∨ many = 60 then 4 else 0
def putN (now : List UInt8) (at_ : Nat) (s : List UInt8) : List UInt8 := now.take at_ ++ s ++ now.drop at_
def putL (at_ : Nat) (s : List UInt8) : List UInt8 := lineM [112] (Lib.itoa (at_ : Int)) s
def cutE (now : List UInt8) (many : Nat) (at_ k : Int) : Int :=
  if ¬ (0 ≤ at_ ∧ at_ ≤ now.length) then 1 else if ¬ (1 ≤ k ∧ k ≤ now.length - at_) then 1 else if many = 60 then 4 else 0
def cutN (now : List UInt8) (at_ k : Nat) : List UInt8 := now.take at_ ++ now.drop (at_ + k)
def cutL (at_ k : Nat) : List UInt8 := lineM [99] (Lib.itoa (at_ : Int)) (Lib.itoa (k : Int))
theorem wordE_len {s : List UInt8} (h : wordE s = 0) : 1 ≤ s.length ∧ s.length ≤ 8 := by
  unfold wordE at h
  split at h
  · cases h
  · rename_i h0
    split at h
    · cases h
    · have := List.length_pos_iff.2 h0; omega
/-- The bounds that a book keeps. -/
def Small (now txt : List UInt8) (many : Nat) : Prop := now.length ≤ 24 ∧ many ≤ 60 ∧ txt.length ≤ many * 80
set_option maxRecDepth 100000 in
set_option maxHeartbeats 2000000 in
theorem put_any (F : Nat → Option Obj) (B b : Nat) (now txt s : List UInt8) (many : Nat) (at_ : Int) (w : World) (h : Bk F B b now txt many w) (ht : TG w) (hs : Small now txt many) (hs9 : s.length ≤ 9223372036854775807) (hBw : B ≤ w.heap.size) (hB0 : 1 < B) :
    Calls Tryd.prog 10 #[.pointer (some ⟨b, 0, none⟩), .int .i64 at_, S s] w fun e w' => e = .returned (errV (putE now many at_ s)) ∧ Below B w w' ∧
      ((putE now many at_ s ≠ 0 ∧ Bk F B b now txt many w') ∨ (putE now many at_ s = 0 ∧ Bk F B b (putN now at_.toNat s) (txt ++ downM (putL at_.toNat s)) (many + 1) w')) := by
  have HH := Lib.hid h
  have HT := Lib.hid ht
  have hBl := h.le
  have hlt := h.lt
  obtain ⟨g1, g2, g3⟩ := hs
  obtain ⟨p, hp, hat⟩ := h
  obtain ⟨c0, c1, c3, f0, f1, f3⟩ := hat.cells
  have HAT := Lib.hid hat
  have HPP := Lib.hid hp
  clear hp hat ht
  by_cases h1 : 0 ≤ at_ ∧ at_ ≤ now.length
  rotate_left
  · have HE := Lib.hid (show putE now many at_ s = 1 by unfold putE; rw [if_pos h1])
    have HD := Lib.hid (show decide (0 ≤ at_ ∧ at_ ≤ (now.length : Int)) = false from decide_eq_false h1)
    clear h1
    go_enter Tryd.func10, Tryd.ntmps10
    go_wp2_with fail
    refine (within_any _ _ _ _).mono ?_
    rintro e w' ⟨rfl, rfl⟩
    rw [HD.out]
    go_wp2_with fail
    go_ret
    exact ⟨by rw [HE.out]; rfl, Below.refl _ _, .inl ⟨by rw [HE.out]; decide, HH.out⟩⟩
  have HD := Lib.hid (show decide (0 ≤ at_ ∧ at_ ≤ (now.length : Int)) = true from decide_eq_true h1)
  have HI1 := Lib.hid h1
  obtain ⟨at_, rfl⟩ : ∃ n : Nat, at_ = n := ⟨at_.toNat, by omega⟩
  clear h1
  go_enter Tryd.func10, Tryd.ntmps10
  go_wp2_with fail
  refine (within_any _ _ _ _).mono ?_
  rintro e w' ⟨rfl, rfl⟩
  rw [HD.out]
  go_wp2_with fail
  refine (word_any s _ hs9).mono ?_
  rintro e w1 ⟨rfl, hb1⟩
  have hB1 : Below B w w1 := hb1.mono hBw
  have HB1 := Lib.hid hB1
  have HH1 := Lib.hid (HH.out.below hb1)
  have HAT1 := Lib.hid (HAT.out.below hb1)
  have HT1 := Lib.hid (HT.out.below hb1 (Nat.le_refl _))
  have hz1 := hb1.size
  clear hb1 hB1 c0 c1 c3 f0 f1 f3
  obtain ⟨c0, c1, c3, f0, f1, f3⟩ := HAT1.out.cells
  by_cases hw : wordE s = 0
  rotate_left
  · have HE := Lib.hid (show putE now many at_ s = wordE s by unfold putE; rw [if_neg (fun h => h HI1.out), if_pos hw])
    rw [err_ne hw]
    have HW := Lib.hid hw
    clear hw
    go_wp2_with fail
    go_ret
    exact ⟨by rw [HE.out, err_ne HW.out]; rfl, HB1.out, .inl ⟨by rw [HE.out]; exact HW.out, HH1.out⟩⟩
  obtain ⟨w1l, w8l⟩ := wordE_len hw
  rw [hw, show errV 0 = .nilIface from rfl]
  have HW := Lib.hid hw
  clear hw
  by_cases h24 : 24 < now.length + s.length
  · have HE := Lib.hid (show putE now many at_ s = 4 by unfold putE; rw [if_neg (fun h => h HI1.out), if_neg (by rw [HW.out]; decide), if_pos (.inl h24)])
    have h24' : (24 : Int) < (now.length : Int) + (s.length : Int) := by omega
    go_wp2_with fail
    go_ret
    exact ⟨by rw [HE.out]; rfl, HB1.out, .inl ⟨by rw [HE.out]; decide, HH1.out⟩⟩
  have h24' : ¬ ((24 : Int) < (now.length : Int) + (s.length : Int)) := by omega
  by_cases h60 : many = 60
  · have HE := Lib.hid (show putE now many at_ s = 4 by unfold putE; rw [if_neg (fun h => h HI1.out), if_neg (by rw [HW.out]; decide), if_pos (.inr h60)])
    have e60 : ((many : Int) == 60) = true := by simp; omega
    clear h60
    go_wp2_with fail
    go_ret
    exact ⟨by rw [HE.out]; rfl, HB1.out, .inl ⟨by rw [HE.out]; decide, HH1.out⟩⟩
  have HE := Lib.hid (show putE now many at_ s = 0 by unfold putE; rw [if_neg (fun h => h HI1.out), if_neg (by rw [HW.out]; decide), if_neg (by omega)])
  have e60 : ((many : Int) == 60) = false := by simp; omega
  have hx1 := str_to now at_
  have hx2 := str_from now at_
  have hal : at_ ≤ now.length := by have := HI1.out; omega
  have hl1 : (now.take at_).length = at_ := by rw [List.length_take]; omega
  have hl2 : (now.drop at_).length = now.length - at_ := List.length_drop ..
  have f5 : (0 : Int) ≤ (at_ : Int) := by omega
  have f6 : (at_ : Int) ≤ (now.length : Int) := by omega
  have HL := Lib.hid (And.intro hl1 hl2)
  clear h60
  go_wp2_with fail
  have hmin : min at_ now.length = at_ := by omega
  have nb1 : ¬ (9223372036854775807 < at_ + s.length) := by omega
  have nb2 : ¬ (9223372036854775807 < at_ + s.length + (now.length - at_)) := by omega
  have nb3 : ¬ (9223372036854775807 < at_ + (s.length + (now.length - at_))) := by omega
  go_still_tail 18, (by kernel_rfl)
  change wpList _ _ _ _ _ w1.drew
  have HAT2 : Hid (BkAt F B b p now txt many w1.drew) := HAT1
  have HT2 : Hid (TG w1.drew) := HT1
  have HB2 : Hid (Below B w w1.drew) := Lib.hid (below_drewN HB1.out 1)
  have c0' : w1.drew.cell? ⟨b, 0, none⟩ = some (S now) := c0
  have f0' : w1.drew.frozen? ⟨b, 0, none⟩ = false := f0
  generalize w1.drew = w2 at *
  clear nb1 nb2 nb3 hmin c0 c1 c3 f0 f1 f3 HAT1 HT1 HB1 HH1 hx1 hx2 f5 f6 hl1 hl2
  have HA3 := Lib.hid (HAT2.out.set_ 0 (S (putN now at_ s)) p (putN now at_ s) many (fun v => rfl))
  have HB3 := Lib.hid (HB2.out.setCell (p := ⟨b, 0, none⟩) hBl (S (putN now at_ s)))
  have hHT := HT2.out.keep ((Below.refl B w2).setCell (p := ⟨b, 0, none⟩) hBl (S (putN now at_ s))) hB0
  have HT3 := Lib.hid hHT
  clear hHT
  have hN : now.take at_ ++ (s ++ now.drop at_) = putN now at_ s := by simp [putN]
  have hzz : (w2.setCell ⟨b, 0, none⟩ (S (putN now at_ s))).heap.size = w2.heap.size := by simp [World.setCell]
  have hsl : (putN now at_ s).length ≤ 24 := by have := HL.out.1; have := HL.out.2; simp only [putN, List.length_append]; omega
  have HBLT := Lib.hid HA3.out.lt
  clear HAT2 HB2 HT2
  go_wp2_with fail
  clear c0' f0'
  generalize w2.setCell ⟨b, 0, none⟩ (S (putN now at_ s)) = w3 at *
  refine (itoa_any at_ _ (by omega) HT3.out).mono ?_
  rintro e w4 ⟨rfl, hb4⟩
  have hz4 := hb4.size
  have hA4 := HA3.out.below hb4
  have hT4 := HT3.out.below hb4 (Nat.le_refl _)
  have hB4 : Below B w w4 := HB3.out.trans (hb4.mono (by have := HBLT.out; omega))
  have hil := itoa_len at_ (by omega)
  have HPL : Hid (putL at_ s = lineM [112] (Lib.itoa (at_ : Int)) s) := Lib.hid rfl
  generalize Lib.itoa (at_ : Int) = I at *
  have hAl : Below w4.heap.size w4 (w4.alloc (.cells #[S [112], S I, S s] 9)) := (Below.refl _ _).alloc (Nat.le_refl _) _
  have hcc : ∀ (j : Nat) u, [ByteArray.mk [112].toArray, ByteArray.mk I.toArray, ByteArray.mk s.toArray][j]? = some u → (w4.alloc (.cells #[S [112], S I, S s] 9)).cell? ⟨w4.heap.size, 0 + j, none⟩ = some (.string u) := fun j u hj => by
    have hc : (w4.alloc (.cells #[S [112], S I, S s] 9)).cell? ⟨w4.heap.size, 0 + j, none⟩ = (#[S [112], S I, S s] : Array Value)[0 + j]? := cell_of_row _ w4.heap.size (0 + j) #[S [112], S I, S s] 9 (0, 0) (heap_alloc_new w4 _)
    rw [hc]
    match j, hj with
    | 0, hj => simp at hj; subst hj; rfl
    | 1, hj => simp at hj; subst hj; rfl
    | 2, hj => simp at hj; subst hj; rfl
  have HDN := Lib.hid (down_any F B b w4.heap.size (putN now at_ s) txt [112] I s many (w4.alloc (.cells #[S [112], S I, S s] 9)) (Bk.below ⟨p, HPP.out, hA4⟩ hAl) (hT4.below hAl (Nat.le_refl _)) hcc (by simp) (by simp; omega) (by omega) (by omega))
  have HB5 := Lib.hid (hB4.alloc (by have := HBLT.out; omega) (.cells #[S [112], S I, S s] 9))
  clear hb4 hA4 hT4 hB4 hAl hcc
  go_wp2_with fail
  refine HDN.out.mono ?_
  rintro e w6 ⟨rfl, hk6, hb6⟩
  have HK6 := Lib.hid hk6
  have HB6 := Lib.hid (HB5.out.trans hb6)
  clear hk6 hb6
  go_wp2_with fail
  go_ret
  exact ⟨by rw [HE.out]; rfl, HB6.out, .inr ⟨HE.out, by rw [show ((at_ : Int)).toNat = at_ by simp, HPL.out]; exact HK6.out⟩⟩

set_option maxRecDepth 100000 in
set_option maxHeartbeats 2000000 in
theorem cut_any (F : Nat → Option Obj) (B b : Nat) (now txt : List UInt8) (many : Nat) (at_ k : Int) (w : World) (h : Bk F B b now txt many w) (ht : TG w) (hs : Small now txt many) (hB0 : 1 < B) :
    Calls Tryd.prog 11 #[.pointer (some ⟨b, 0, none⟩), .int .i64 at_, .int .i64 k] w fun e w' => e = .returned (errV (cutE now many at_ k)) ∧ Below B w w' ∧
      ((cutE now many at_ k ≠ 0 ∧ Bk F B b now txt many w') ∨ (cutE now many at_ k = 0 ∧ Bk F B b (cutN now at_.toNat k.toNat) (txt ++ downM (cutL at_.toNat k.toNat)) (many + 1) w')) := by
  have HH := Lib.hid h
  have HT := Lib.hid ht
  have hBl := h.le
  have hlt := h.lt
  obtain ⟨g1, g2, g3⟩ := hs
  obtain ⟨p, hp, hat⟩ := h
  obtain ⟨c0, c1, c3, f0, f1, f3⟩ := hat.cells
  have HAT := Lib.hid hat
  have HPP := Lib.hid hp
  clear hp hat ht
  by_cases h1 : 0 ≤ at_ ∧ at_ ≤ now.length
  rotate_left
  · have HE := Lib.hid (show cutE now many at_ k = 1 by unfold cutE; rw [if_pos h1])
    have HD := Lib.hid (show decide (0 ≤ at_ ∧ at_ ≤ (now.length : Int)) = false from decide_eq_false h1)
    clear h1
    go_enter Tryd.func11, Tryd.ntmps11
    go_wp2_with fail
    refine (within_any _ _ _ _).mono ?_
    rintro e w' ⟨rfl, rfl⟩
    rw [HD.out]
    go_wp2_with fail
    go_ret
    exact ⟨by rw [HE.out]; rfl, Below.refl _ _, .inl ⟨by rw [HE.out]; decide, HH.out⟩⟩
  have HD := Lib.hid (show decide (0 ≤ at_ ∧ at_ ≤ (now.length : Int)) = true from decide_eq_true h1)
  have HI1 := Lib.hid h1
  obtain ⟨at_, rfl⟩ : ∃ n : Nat, at_ = n := ⟨at_.toNat, by omega⟩
  by_cases h2 : 1 ≤ k ∧ k ≤ now.length - at_
  rotate_left
  · have HE := Lib.hid (show cutE now many at_ k = 1 by unfold cutE; rw [if_neg (fun h => h HI1.out), if_pos h2])
    have HD2 := Lib.hid (show decide (1 ≤ k ∧ k ≤ (now.length : Int) - (at_ : Int)) = false from decide_eq_false h2)
    clear h2
    go_enter Tryd.func11, Tryd.ntmps11
    go_wp2_with fail
    refine (within_any _ _ _ _).mono ?_
    rintro e w' ⟨rfl, rfl⟩
    rw [HD.out]
    go_wp2_with fail
    refine (within_any _ _ _ _).mono ?_
    rintro e w' ⟨rfl, rfl⟩
    rw [HD2.out]
    go_wp2_with fail
    go_ret
    exact ⟨by rw [HE.out]; rfl, Below.refl _ _, .inl ⟨by rw [HE.out]; decide, HH.out⟩⟩
  have HD2 := Lib.hid (show decide (1 ≤ k ∧ k ≤ (now.length : Int) - (at_ : Int)) = true from decide_eq_true h2)
  have HI2 := Lib.hid h2
  obtain ⟨k, rfl⟩ : ∃ n : Nat, k = n := ⟨k.toNat, by omega⟩
  by_cases h60 : many = 60
  · have HE := Lib.hid (show cutE now many at_ k = 4 by unfold cutE; rw [if_neg (fun h => h HI1.out), if_neg (fun h => h HI2.out), if_pos h60])
    have e60 : ((many : Int) == 60) = true := by simp; omega
    clear h60 h1 h2
    go_enter Tryd.func11, Tryd.ntmps11
    go_wp2_with fail
    refine (within_any _ _ _ _).mono ?_
    rintro e w' ⟨rfl, rfl⟩
    rw [HD.out]
    go_wp2_with fail
    refine (within_any _ _ _ _).mono ?_
    rintro e w' ⟨rfl, rfl⟩
    rw [wrap64_in ((now.length : Int) - (at_ : Int)) (by have := HI1.out; omega), HD2.out]
    go_wp2_with fail
    go_ret
    exact ⟨by rw [HE.out]; rfl, Below.refl _ _, .inl ⟨by rw [HE.out]; decide, HH.out⟩⟩
  have HE := Lib.hid (show cutE now many at_ k = 0 by unfold cutE; rw [if_neg (fun h => h HI1.out), if_neg (fun h => h HI2.out), if_neg h60])
  have e60 : ((many : Int) == 60) = false := by simp; omega
  have hx1 := str_to now at_
  have hx2 := str_from now (at_ + k)
  have hal : at_ + k ≤ now.length := by omega
  have hl1 : (now.take at_).length = at_ := by rw [List.length_take]; omega
  have hl2 : (now.drop (at_ + k)).length = now.length - (at_ + k) := List.length_drop ..
  have HL := Lib.hid (And.intro hl1 hl2)
  have f5 : (0 : Int) ≤ (at_ : Int) := by omega
  have f6 : (at_ : Int) ≤ (now.length : Int) := by omega
  have f7 : IntKind.i64.wrap ((at_ : Int) + (k : Int)) = (at_ : Int) + (k : Int) := i64_in _ (by omega)
  have f8 : (0 : Int) ≤ (at_ : Int) + (k : Int) := by omega
  have f9 : (at_ : Int) + (k : Int) ≤ (now.length : Int) := by omega
  have f10 : ((at_ : Int) + (k : Int)).toNat = at_ + k := by omega
  clear h60 h1 h2
  go_enter Tryd.func11, Tryd.ntmps11
  go_wp2_with fail
  refine (within_any _ _ _ _).mono ?_
  rintro e w' ⟨rfl, rfl⟩
  rw [HD.out]
  go_wp2_with fail
  refine (within_any _ _ _ _).mono ?_
  rintro e w1 ⟨rfl, hw1⟩
  obtain rfl : w = w1 := hw1
  rw [HD2.out]
  go_wp2_with fail
  have hmin : min at_ now.length = at_ := by omega
  have nb1 : ¬ (9223372036854775807 < at_ + (now.length - (at_ + k))) := by omega
  go_still_tail 18, (by kernel_rfl)
  change wpList _ _ _ _ _ w.drew
  have HAT2 : Hid (BkAt F B b p now txt many w.drew) := HAT
  have HT2 : Hid (TG w.drew) := HT
  have HB2 : Hid (Below B w w.drew) := Lib.hid (below_drewN (Below.refl B w) 1)
  have c0' : w.drew.cell? ⟨b, 0, none⟩ = some (S now) := c0
  have f0' : w.drew.frozen? ⟨b, 0, none⟩ = false := f0
  generalize w.drew = w2 at *
  clear nb1 hmin c0 c1 c3 f0 f1 f3 hx1 hx2 f5 f6 f7 f8 f9 f10 hl1 hl2
  have HA3 := Lib.hid (HAT2.out.set_ 0 (S (cutN now at_ k)) p (cutN now at_ k) many (fun v => rfl))
  have HB3 := Lib.hid (HB2.out.setCell (p := ⟨b, 0, none⟩) hBl (S (cutN now at_ k)))
  have hHT := HT2.out.keep ((Below.refl B w2).setCell (p := ⟨b, 0, none⟩) hBl (S (cutN now at_ k))) hB0
  have HT3 := Lib.hid hHT
  clear hHT
  have hN : now.take at_ ++ now.drop (at_ + k) = cutN now at_ k := rfl
  have hzz : (w2.setCell ⟨b, 0, none⟩ (S (cutN now at_ k))).heap.size = w2.heap.size := by simp [World.setCell]
  have HBLT := Lib.hid HA3.out.lt
  clear HAT2 HB2 HT2
  go_wp2_with fail
  clear c0' f0'
  generalize w2.setCell ⟨b, 0, none⟩ (S (cutN now at_ k)) = w3 at *
  refine (itoa_any at_ _ (by omega) HT3.out).mono ?_
  rintro e w4 ⟨rfl, hb4⟩
  have hT4 := HT3.out.below hb4 (Nat.le_refl _)
  have HA4 := Lib.hid (HA3.out.below hb4)
  have HB4 : Hid (Below B w w4) := Lib.hid (HB3.out.trans (hb4.mono (by have := HBLT.out; omega)))
  have HT4 := Lib.hid hT4
  clear hb4 hT4
  go_wp2_with fail
  refine (itoa_any k _ (by omega) HT4.out).mono ?_
  rintro e w5 ⟨rfl, hb5⟩
  have hA5 := HA4.out.below hb5
  have hT5 := HT4.out.below hb5 (Nat.le_refl _)
  have hlt4 := HA4.out.lt
  have hB5 : Below B w w5 := HB4.out.trans (hb5.mono (by omega))
  have hlt5 := hA5.lt
  have hil := itoa_len at_ (by omega)
  have hjl := itoa_len k (by omega)
  have HPL : Hid (cutL at_ k = lineM [99] (Lib.itoa (at_ : Int)) (Lib.itoa (k : Int))) := Lib.hid rfl
  generalize Lib.itoa (at_ : Int) = I at *
  generalize Lib.itoa (k : Int) = J at *
  have hAl : Below w5.heap.size w5 (w5.alloc (.cells #[S [99], S I, S J] 9)) := (Below.refl _ _).alloc (Nat.le_refl _) _
  have hcc : ∀ (j : Nat) u, [ByteArray.mk [99].toArray, ByteArray.mk I.toArray, ByteArray.mk J.toArray][j]? = some u → (w5.alloc (.cells #[S [99], S I, S J] 9)).cell? ⟨w5.heap.size, 0 + j, none⟩ = some (.string u) := fun j u hj => by
    have hc : (w5.alloc (.cells #[S [99], S I, S J] 9)).cell? ⟨w5.heap.size, 0 + j, none⟩ = (#[S [99], S I, S J] : Array Value)[0 + j]? := cell_of_row _ w5.heap.size (0 + j) #[S [99], S I, S J] 9 (0, 0) (heap_alloc_new w5 _)
    rw [hc]
    match j, hj with
    | 0, hj => simp at hj; subst hj; rfl
    | 1, hj => simp at hj; subst hj; rfl
    | 2, hj => simp at hj; subst hj; rfl
  have HDN := Lib.hid (down_any F B b w5.heap.size (cutN now at_ k) txt [99] I J many (w5.alloc (.cells #[S [99], S I, S J] 9)) (Bk.below ⟨p, HPP.out, hA5⟩ hAl) (hT5.below hAl (Nat.le_refl _)) hcc (by simp) (by simp; omega) (by omega) (by omega))
  have HB6 := Lib.hid (hB5.alloc (by omega) (.cells #[S [99], S I, S J] 9))
  clear hb5 hA5 hT5 hB5 hAl hcc
  go_wp2_with fail
  refine HDN.out.mono ?_
  rintro e w7 ⟨rfl, hk7, hb7⟩
  have HK7 := Lib.hid hk7
  have HB7 := Lib.hid (HB6.out.trans hb7)
  clear hk7 hb7
  go_wp2_with fail
  go_ret
  exact ⟨by rw [HE.out]; rfl, HB7.out, .inr ⟨HE.out, by rw [show ((at_ : Int)).toNat = at_ by simp, show ((k : Int)).toNat = k by simp, HPL.out]; exact HK7.out⟩⟩
end Go.Proofs.YtgmmlblefealjaaDoor
