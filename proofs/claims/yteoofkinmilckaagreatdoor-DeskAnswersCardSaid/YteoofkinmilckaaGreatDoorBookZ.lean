/- package book's line, at any text that is not too long. Condition: as of number. -/
import Derived.Test.YteoofkinmilckaaGreatDoorBookV
namespace Go.Proofs.YteoofkinmilckaaGreatDoor
open Go.RowKit IntWalk
attribute [local go_sem] byte_at str_app
attribute [local go_sem ↓] Go.wp_at_zero Go.wp_at_succ

/-- The words of a text, parted by blanks. -/
def splitL (p : List UInt8) : List (List UInt8) := (Lib.splitB ⟨#[32]⟩ 0 (Lib.countB ⟨p.toArray⟩ ⟨#[32]⟩) ⟨p.toArray⟩).map (·.data.toList)
theorem splitK_len (sep : List UInt8) : ∀ (k : Nat) (s x : List UInt8), x ∈ Lib.splitK sep 0 k s → x.length ≤ s.length
  | 0, s, x, h => by
    simp only [Lib.splitK, List.mem_singleton] at h
    rw [h]; exact Nat.le_refl _
  | k + 1, s, x, h => by
    unfold Lib.splitK at h
    by_cases hc : (Lib.index s sep == -1) = true
    · rw [if_pos hc, List.mem_singleton] at h
      rw [h]; exact Nat.le_refl _
    · rw [if_neg hc, List.mem_cons] at h
      rcases h with h | h
      · rw [h, List.length_take]; omega
      · have := splitK_len sep k _ x h
        rw [List.length_drop] at this
        omega
theorem splitL_len {p x : List UInt8} (h : x ∈ splitL p) : x.length ≤ p.length := by
  unfold splitL at h
  rw [Lib.splitB_data] at h
  exact splitK_len _ _ _ _ h
theorem splitL_count (p : List UInt8) : (splitL p).length = Lib.countB ⟨p.toArray⟩ ⟨#[32]⟩ + 1 := by
  unfold splitL
  rw [List.length_map, Lib.splitB_all _ (by decide) 0 _ _ rfl]
theorem split_gen (p : List UInt8) (w : World) (hm : ML w) (hl : p.length ≤ 100000) :
    Calls Tryz.prog 46 #[S p, S [32]] w fun e w' => e = .returned (.slice (some ⟨w.heap.size, 0, none⟩) (splitL p).length (splitL p).length) ∧ w' = w.alloc (.cells ((splitL p).map S).toArray 9) := by
  obtain ⟨m, hm⟩ := hm
  have h := Tryz.strings_Split ⟨p.toArray⟩ ⟨#[32]⟩ m w (by simp [ByteArray.size]; omega) hm (by decide)
  rw [← splitL_count] at h
  have e : (Lib.splitB ⟨#[32]⟩ 0 (Lib.countB ⟨p.toArray⟩ ⟨#[32]⟩) ⟨p.toArray⟩).map Value.string = (splitL p).map S := by
    unfold splitL
    rw [List.map_map]
    rfl
  rw [e] at h
  exact h
/-- What a line does to a book. -/
def lineR (s : BS) (l : List UInt8) : Int × BS :=
  if Lib.lastIndexByte ⟨l.toArray⟩ 32 < 0 then (2, s) else
  match numO (l.drop ((Lib.lastIndexByte ⟨l.toArray⟩ 32).toNat + 1)) with
  | none => (2, s)
  | some n => if n ≠ sumM (l.take (Lib.lastIndexByte ⟨l.toArray⟩ 32).toNat) then (6, s) else
    match splitL (l.take (Lib.lastIndexByte ⟨l.toArray⟩ 32).toNat) with
    | [a, b, c] => (match numO b with
      | none => (2, s)
      | some i => if a = [112] then putS s i c else if a = [99] then (match numO c with
        | none => (2, s)
        | some k => cutS s i k) else (2, s))
    | _ => (2, s)
theorem lastIdx_lt (s : ByteArray) (c : Int) : Lib.lastIndexByte s c = -1 ∨ ∃ i : Nat, i < s.size ∧ Lib.lastIndexByte s c = i := by
  unfold Lib.lastIndexByte
  rcases Lib.lastIdx_spec s c s.size with ⟨h, _⟩ | ⟨i, hi, h, _⟩
  · exact .inl h
  · exact .inr ⟨i, hi, h⟩

set_option maxRecDepth 100000 in
set_option maxHeartbeats 4000000 in
theorem line_gen (F : Nat → Option Obj) (B b : Nat) (s : BS) (l : List UInt8) (w : World) (h : Bks F B b s w) (ht : TG w) (hm : ML w) (he : EV w) (hs : Smalls s) (hl : l.length ≤ 2000) (hBw : B ≤ w.heap.size) (hB0 : 4 < B) (hB1 : 1 < B) (hB3 : 2 < B) (hB4 : 3 < B) :
    Calls Tryz.prog 26 #[.pointer (some ⟨b, 0, none⟩), S l] w fun r w' => r = .returned (errV (lineR s l).1) ∧ Below B w w' ∧ Bks F B b (lineR s l).2 w' := by
  have HX : Hid (lineR s l = if Lib.lastIndexByte ⟨l.toArray⟩ 32 < 0 then (2, s) else
    match numO (l.drop ((Lib.lastIndexByte ⟨l.toArray⟩ 32).toNat + 1)) with
    | none => (2, s)
    | some n => if n ≠ sumM (l.take (Lib.lastIndexByte ⟨l.toArray⟩ 32).toNat) then (6, s) else
      match splitL (l.take (Lib.lastIndexByte ⟨l.toArray⟩ 32).toNat) with
      | [a, b, c] => (match numO b with
        | none => (2, s)
        | some i => if a = [112] then putS s i c else if a = [99] then (match numO c with
          | none => (2, s)
          | some k => cutS s i k) else (2, s))
      | _ => (2, s)) := Lib.hid rfl
  generalize lineR s l = R at *
  have HLI := Lib.hid (Tryz.strings_LastIndexByte ⟨l.toArray⟩ 32 (by simp [ByteArray.size]; omega))
  have hcs := lastIdx_lt ⟨l.toArray⟩ 32
  generalize Lib.lastIndexByte ⟨l.toArray⟩ 32 = z at *
  have HH := Lib.hid h; have HT := Lib.hid ht; have HM := Lib.hid hm; have HE := Lib.hid he
  clear h ht hm he
  rcases hcs with rfl | ⟨i, hi, rfl⟩
  · have hR : R = (2, s) := by rw [HX.out, if_pos (by decide)]
    subst hR
    go_enter Tryz.func26, Tryz.ntmps26
    go_wp2_with fail
    refine (HLI.out _).mono ?_
    rintro e w' ⟨rfl, rfl⟩
    go_wp2_with fail
    go_ret
    exact ⟨rfl, Below.refl _ _, HH.out⟩
  have hil : i < l.length := by simpa [ByteArray.size] using hi
  rw [if_neg (by omega), Int.toNat_natCast] at HX
  have hx1 := str_from l (i + 1)
  have hx2 := str_to l i
  have hDl : (l.drop (i + 1)).length ≤ 2000 := by rw [List.length_drop]; omega
  have hPl : (l.take i).length ≤ 2000 := by rw [List.length_take]; omega
  generalize l.drop (i + 1) = D at *
  generalize l.take i = P at *
  have HND := Lib.hid (fun W (hT : TG W) (hE : EV W) => number_gen D W (by omega) hT hE)
  have HSU := Lib.hid (sum2_any P)
  have HSP := Lib.hid (fun W (hM : ML W) => split_gen P W hM (by omega))
  have HSL : Hid (∀ x ∈ splitL P, x.length ≤ 2000) := Lib.hid fun x hx => Nat.le_trans (splitL_len hx) hPl
  have f1 : IntKind.i64.wrap ((i : Int) + 1) = (i : Int) + 1 := i64_in _ (by omega)
  have f2 : (0 : Int) ≤ (i : Int) + 1 := by omega
  have f3 : (i : Int) + 1 ≤ (l.length : Int) := by omega
  have f4 : ((i : Int) + 1).toNat = i + 1 := by omega
  have f5 : ¬ (i : Int) < 0 := by omega
  have f6 : (0 : Int) ≤ (i : Int) := by omega
  have f7 : (i : Int) ≤ (l.length : Int) := by omega
  have hlt := HH.out.lt
  clear hi
  cases hnd : numO D with
  | none =>
    rw [hnd] at HX HND
    have hR : R = (2, s) := HX.out
    subst hR
    clear HX hnd
    go_enter Tryz.func26, Tryz.ntmps26
    go_wp2_with fail
    refine (HLI.out _).mono ?_
    rintro e w' ⟨rfl, rfl⟩
    go_wp2_with fail
    refine (HND.out _ HT.out HE.out).mono ?_
    rintro e w1 ⟨⟨v, rfl, _⟩, hb1⟩
    have HB1 := Lib.hid (hb1.mono hBw)
    have HH1 := Lib.hid (HH.out.below hb1)
    clear hb1
    rw [show (none : Option Nat).isSome = false from rfl]
    go_wp2_with fail
    go_ret
    exact ⟨rfl, HB1.out, HH1.out⟩
  | some n =>
    rw [hnd] at HX HND
    have HV : Hid (∀ v : Int, (∀ q, some n = some q → v = (q : Int)) → v = (n : Int)) := Lib.hid fun v h => h n rfl
    have hX2 := HX.out
    simp only [] at hX2
    have HX2 := Lib.hid hX2
    clear HX hX2 hnd
    by_cases hsum : n = sumM P
    rotate_left
    · have hR : R = (6, s) := by rw [HX2.out, if_pos hsum]
      subst hR
      have hne : ((n : Int) == (sumM P : Int)) = false := by simp; omega
      have hne2 : ((n : Int) != (sumM P : Int)) = true := by simp; omega
      clear HX2
      generalize sumM P = u at *
      clear hsum
      go_enter Tryz.func26, Tryz.ntmps26
      go_wp2_with fail
      refine (HLI.out _).mono ?_
      rintro e w' ⟨rfl, rfl⟩
      go_wp2_with fail
      refine (HND.out _ HT.out HE.out).mono ?_
      rintro e w1 ⟨⟨v, rfl, hv⟩, hb1⟩
      obtain rfl := HV.out v hv
      have HB1 := Lib.hid (hb1.mono hBw)
      have HH1 := Lib.hid (HH.out.below hb1)
      clear hb1 hv
      rw [show (some n).isSome = true from rfl]
      go_wp2_with fail
      refine (HSU.out _ hPl).mono ?_
      rintro e w2 ⟨rfl, hb2⟩
      have HB2 := Lib.hid (HB1.out.trans (hb2.mono (Nat.le_trans hBw HB1.out.size)))
      have HH2 := Lib.hid (HH1.out.below hb2)
      clear hb2 HB1 HH1
      go_wp2_with fail
      go_ret
      exact ⟨rfl, HB2.out, HH2.out⟩
    have hX3 := HX2.out
    rw [if_neg (fun h => h hsum)] at hX3
    have HX3 := Lib.hid hX3
    rw [← hsum] at HSU
    clear HX2 hX3 hsum
    generalize hws : splitL P = ws at *
    clear hws
    by_cases h3 : ws.length = 3
    rotate_left
    · have hR : R = (2, s) := by
        rw [HX3.out]
        match ws, h3 with
        | [], _ => rfl
        | [_], _ => rfl
        | [_, _], _ => rfl
        | [_, _, _], h => exact absurd rfl h
        | _ :: _ :: _ :: _ :: _, _ => rfl
      subst hR
      have q1 : ((ws.length : Int) == 3) = false := by simp; omega
      have q2 : ((ws.length : Int) != 3) = true := by simp; omega
      clear HX3 HSL
      go_enter Tryz.func26, Tryz.ntmps26
      go_wp2_with fail
      refine (HLI.out _).mono ?_
      rintro e w' ⟨rfl, rfl⟩
      go_wp2_with fail
      refine (HND.out _ HT.out HE.out).mono ?_
      rintro e w1 ⟨⟨v, rfl, hv⟩, hb1⟩
      obtain rfl := HV.out v hv
      have HB1 := Lib.hid (hb1.mono hBw)
      have HH1 := Lib.hid (HH.out.below hb1)
      clear hb1 hv
      rw [show (some n).isSome = true from rfl]
      go_wp2_with fail
      refine (HSU.out _ hPl).mono ?_
      rintro e w2 ⟨rfl, hb2⟩
      have HB2 := Lib.hid (HB1.out.trans (hb2.mono (Nat.le_trans hBw HB1.out.size)))
      have HH2 := Lib.hid (HH1.out.below hb2)
      clear hb2 HB1 HH1
      go_wp2_with fail
      refine (HSP.out _ (HM.out.below HB2.out hB1)).mono ?_
      rintro e w' ⟨rfl, rfl⟩
      have HB3 := Lib.hid (HB2.out.alloc (Nat.le_trans hBw HB2.out.size) (.cells (ws.map S).toArray 9))
      have HH3 := Lib.hid (HH2.out.below ((Below.refl _ w2).alloc (Nat.le_refl _) (.cells (ws.map S).toArray 9)))
      generalize w2.alloc (.cells (ws.map S).toArray 9) = w3 at *
      clear h3 HB2 HH2
      generalize ws.length = wl at *
      go_wp2_with fail
      go_ret
      exact ⟨rfl, HB3.out, HH3.out⟩
    obtain ⟨a, d, c, rfl⟩ : ∃ a d c, ws = [a, d, c] := by
      match ws, h3 with
      | [a, d, c], _ => exact ⟨a, d, c, rfl⟩
    have HSP3 : Hid (∀ W : World, ML W → Calls Tryz.prog 46 #[S P, S [32]] W fun e w' => e = .returned (.slice (some ⟨W.heap.size, 0, none⟩) 3 3) ∧ w' = W.alloc (.cells #[S a, S d, S c] 9)) := Lib.hid fun W hM => HSP.out W hM
    have HNB := Lib.hid (fun W (hT : TG W) (hE : EV W) => number_gen d W (by have := HSL.out d (by simp); omega) hT hE)
    have HNC := Lib.hid (fun W (hT : TG W) (hE : EV W) => number_gen c W (by have := HSL.out c (by simp); omega) hT hE)
    have hcl := HSL.out c (by simp)
    have hX4 := HX3.out
    simp only [] at hX4
    have HX4 := Lib.hid hX4
    clear hX4 HX3 HSL h3
    cases hnb : numO d with
    | none =>
      rw [hnb] at HX4 HNB
      have hR : R = (2, s) := HX4.out
      subst hR
      clear HX4 hnb HNC
      go_enter Tryz.func26, Tryz.ntmps26
      go_wp2_with fail
      refine (HLI.out _).mono ?_
      rintro e w' ⟨rfl, rfl⟩
      go_wp2_with fail
      refine (HND.out _ HT.out HE.out).mono ?_
      rintro e w1 ⟨⟨v, rfl, hv⟩, hb1⟩
      obtain rfl := HV.out v hv
      have HB1 := Lib.hid (hb1.mono hBw)
      have HH1 := Lib.hid (HH.out.below hb1)
      clear hb1 hv
      rw [show (some n).isSome = true from rfl]
      go_wp2_with fail
      refine (HSU.out _ hPl).mono ?_
      rintro e w2 ⟨rfl, hb2⟩
      have HB2 := Lib.hid (HB1.out.trans (hb2.mono (Nat.le_trans hBw HB1.out.size)))
      have HH2 := Lib.hid (HH1.out.below hb2)
      clear hb2 HB1 HH1
      go_wp2_with fail
      refine (HSP3.out _ (HM.out.below HB2.out hB1)).mono ?_
      rintro e w' ⟨rfl, rfl⟩
      have HB3 := Lib.hid (HB2.out.alloc (Nat.le_trans hBw HB2.out.size) (.cells #[S a, S d, S c] 9))
      have HH3 := Lib.hid (HH2.out.below ((Below.refl _ w2).alloc (Nat.le_refl _) (.cells #[S a, S d, S c] 9)))
      have hg3 := heap_alloc_new w2 (.cells #[S a, S d, S c] 9)
      generalize w2.alloc (.cells #[S a, S d, S c] 9) = w3 at *
      generalize w2.heap.size = g at *
      clear HB2 HH2
      obtain ⟨c0, c1, c2, _⟩ := three_at' hg3
      have HG3 := Lib.hid hg3
      clear hg3
      go_wp2_with fail
      refine (HNB.out _ (HT.out.keep HB3.out hB0) (HE.out.below HB3.out hB3 hB4)).mono ?_
      rintro e w4 ⟨⟨v4, rfl, hv4⟩, hb4⟩
      have HB4 := Lib.hid (HB3.out.trans (hb4.mono (Nat.le_trans hBw HB3.out.size)))
      have HH4 := Lib.hid (HH3.out.below hb4)
      have hg4 := (hb4.block g (Array.getElem?_eq_some_iff.1 HG3.out).1).trans HG3.out
      obtain ⟨d0, d1, d2, _⟩ := three_at' hg4
      have HG4 := Lib.hid hg4
      clear hb4 hg4 HB3 HH3
      rw [show (none : Option Nat).isSome = false from rfl]
      go_wp2_with fail
      go_ret
      exact ⟨rfl, HB4.out, HH4.out⟩
    | some i2 =>
      rw [hnb] at HX4 HNB
      have HV4 : Hid (∀ v : Int, (∀ q, some i2 = some q → v = (q : Int)) → v = (i2 : Int)) := Lib.hid fun v h => h i2 rfl
      have hX5 := HX4.out
      simp only [] at hX5
      have HX5 := Lib.hid hX5
      clear hX5 HX4 hnb
      by_cases ha : a = [112]
      · have hR : R = putS s i2 c := by rw [HX5.out, if_pos ha]
        subst ha
        clear HX5 HNC
        go_enter Tryz.func26, Tryz.ntmps26
        go_wp2_with fail
        refine (HLI.out _).mono ?_
        rintro e w' ⟨rfl, rfl⟩
        go_wp2_with fail
        refine (HND.out _ HT.out HE.out).mono ?_
        rintro e w1 ⟨⟨v, rfl, hv⟩, hb1⟩
        obtain rfl := HV.out v hv
        have HB1 := Lib.hid (hb1.mono hBw)
        have HH1 := Lib.hid (HH.out.below hb1)
        clear hb1 hv
        rw [show (some n).isSome = true from rfl]
        go_wp2_with fail
        refine (HSU.out _ hPl).mono ?_
        rintro e w2 ⟨rfl, hb2⟩
        have HB2 := Lib.hid (HB1.out.trans (hb2.mono (Nat.le_trans hBw HB1.out.size)))
        have HH2 := Lib.hid (HH1.out.below hb2)
        clear hb2 HB1 HH1
        go_wp2_with fail
        refine (HSP3.out _ (HM.out.below HB2.out hB1)).mono ?_
        rintro e w' ⟨rfl, rfl⟩
        have HB3 := Lib.hid (HB2.out.alloc (Nat.le_trans hBw HB2.out.size) (.cells #[S [112], S d, S c] 9))
        have HH3 := Lib.hid (HH2.out.below ((Below.refl _ w2).alloc (Nat.le_refl _) (.cells #[S [112], S d, S c] 9)))
        have hg3 := heap_alloc_new w2 (.cells #[S [112], S d, S c] 9)
        generalize w2.alloc (.cells #[S [112], S d, S c] 9) = w3 at *
        generalize w2.heap.size = g at *
        clear HB2 HH2
        obtain ⟨c0, c1, c2, _⟩ := three_at' hg3
        have HG3 := Lib.hid hg3
        clear hg3
        go_wp2_with fail
        refine (HNB.out _ (HT.out.keep HB3.out hB0) (HE.out.below HB3.out hB3 hB4)).mono ?_
        rintro e w4 ⟨⟨v4, rfl, hv4⟩, hb4⟩
        have HB4 := Lib.hid (HB3.out.trans (hb4.mono (Nat.le_trans hBw HB3.out.size)))
        have HH4 := Lib.hid (HH3.out.below hb4)
        have hg4 := (hb4.block g (Array.getElem?_eq_some_iff.1 HG3.out).1).trans HG3.out
        obtain ⟨d0, d1, d2, _⟩ := three_at' hg4
        have HG4 := Lib.hid hg4
        clear hb4 hg4 HB3 HH3
        obtain rfl := HV4.out v4 hv4
        clear hv4
        rw [show (some i2).isSome = true from rfl]
        have HRR := Lib.hid hR
        clear hR
        go_wp2_with fail
        refine (put_s F B b s c i2 w4 HH4.out (HT.out.keep HB4.out hB0) hs (by omega) (Nat.le_trans hBw HB4.out.size) hB0).mono ?_
        rw [← HRR.out]
        rintro e w5 ⟨rfl, hb5, hk5⟩
        have HB5 := Lib.hid (HB4.out.trans hb5)
        have HK5 := Lib.hid hk5
        clear hb5 hk5
        go_wp2_with fail
        go_ret
        exact ⟨rfl, HB5.out, HK5.out⟩
      · have q3 : (a == [112]) = false := by simpa using ha
        by_cases ha2 : a = [99]
        · subst ha2
          have hX6 := HX5.out
          rw [if_neg ha, if_pos rfl] at hX6
          have HX6 := Lib.hid hX6
          clear hX6 HX5 ha
          cases hnc : numO c with
          | none =>
            rw [hnc] at HX6 HNC
            have hR : R = (2, s) := HX6.out
            subst hR
            clear HX6 hnc
            go_enter Tryz.func26, Tryz.ntmps26
            go_wp2_with fail
            refine (HLI.out _).mono ?_
            rintro e w' ⟨rfl, rfl⟩
            go_wp2_with fail
            refine (HND.out _ HT.out HE.out).mono ?_
            rintro e w1 ⟨⟨v, rfl, hv⟩, hb1⟩
            obtain rfl := HV.out v hv
            have HB1 := Lib.hid (hb1.mono hBw)
            have HH1 := Lib.hid (HH.out.below hb1)
            clear hb1 hv
            rw [show (some n).isSome = true from rfl]
            go_wp2_with fail
            refine (HSU.out _ hPl).mono ?_
            rintro e w2 ⟨rfl, hb2⟩
            have HB2 := Lib.hid (HB1.out.trans (hb2.mono (Nat.le_trans hBw HB1.out.size)))
            have HH2 := Lib.hid (HH1.out.below hb2)
            clear hb2 HB1 HH1
            go_wp2_with fail
            refine (HSP3.out _ (HM.out.below HB2.out hB1)).mono ?_
            rintro e w' ⟨rfl, rfl⟩
            have HB3 := Lib.hid (HB2.out.alloc (Nat.le_trans hBw HB2.out.size) (.cells #[S [99], S d, S c] 9))
            have HH3 := Lib.hid (HH2.out.below ((Below.refl _ w2).alloc (Nat.le_refl _) (.cells #[S [99], S d, S c] 9)))
            have hg3 := heap_alloc_new w2 (.cells #[S [99], S d, S c] 9)
            generalize w2.alloc (.cells #[S [99], S d, S c] 9) = w3 at *
            generalize w2.heap.size = g at *
            clear HB2 HH2
            obtain ⟨c0, c1, c2, _⟩ := three_at' hg3
            have HG3 := Lib.hid hg3
            clear hg3
            go_wp2_with fail
            refine (HNB.out _ (HT.out.keep HB3.out hB0) (HE.out.below HB3.out hB3 hB4)).mono ?_
            rintro e w4 ⟨⟨v4, rfl, hv4⟩, hb4⟩
            have HB4 := Lib.hid (HB3.out.trans (hb4.mono (Nat.le_trans hBw HB3.out.size)))
            have HH4 := Lib.hid (HH3.out.below hb4)
            have hg4 := (hb4.block g (Array.getElem?_eq_some_iff.1 HG3.out).1).trans HG3.out
            obtain ⟨d0, d1, d2, _⟩ := three_at' hg4
            have HG4 := Lib.hid hg4
            clear hb4 hg4 HB3 HH3
            obtain rfl := HV4.out v4 hv4
            clear hv4
            rw [show (some i2).isSome = true from rfl]
            go_wp2_with fail
            refine (HNC.out _ (HT.out.keep HB4.out hB0) (HE.out.below HB4.out hB3 hB4)).mono ?_
            rintro e w5 ⟨⟨v5, rfl, _⟩, hb5⟩
            have HB5 := Lib.hid (HB4.out.trans (hb5.mono (Nat.le_trans hBw HB4.out.size)))
            have HH5 := Lib.hid (HH4.out.below hb5)
            clear hb5
            rw [show (none : Option Nat).isSome = false from rfl]
            go_wp2_with fail
            go_ret
            exact ⟨rfl, HB5.out, HH5.out⟩
          | some k2 =>
            rw [hnc] at HX6 HNC
            have HV5 : Hid (∀ v : Int, (∀ q, some k2 = some q → v = (q : Int)) → v = (k2 : Int)) := Lib.hid fun v h => h k2 rfl
            have hR : R = cutS s i2 k2 := HX6.out
            clear HX6 hnc
            go_enter Tryz.func26, Tryz.ntmps26
            go_wp2_with fail
            refine (HLI.out _).mono ?_
            rintro e w' ⟨rfl, rfl⟩
            go_wp2_with fail
            refine (HND.out _ HT.out HE.out).mono ?_
            rintro e w1 ⟨⟨v, rfl, hv⟩, hb1⟩
            obtain rfl := HV.out v hv
            have HB1 := Lib.hid (hb1.mono hBw)
            have HH1 := Lib.hid (HH.out.below hb1)
            clear hb1 hv
            rw [show (some n).isSome = true from rfl]
            go_wp2_with fail
            refine (HSU.out _ hPl).mono ?_
            rintro e w2 ⟨rfl, hb2⟩
            have HB2 := Lib.hid (HB1.out.trans (hb2.mono (Nat.le_trans hBw HB1.out.size)))
            have HH2 := Lib.hid (HH1.out.below hb2)
            clear hb2 HB1 HH1
            go_wp2_with fail
            refine (HSP3.out _ (HM.out.below HB2.out hB1)).mono ?_
            rintro e w' ⟨rfl, rfl⟩
            have HB3 := Lib.hid (HB2.out.alloc (Nat.le_trans hBw HB2.out.size) (.cells #[S [99], S d, S c] 9))
            have HH3 := Lib.hid (HH2.out.below ((Below.refl _ w2).alloc (Nat.le_refl _) (.cells #[S [99], S d, S c] 9)))
            have hg3 := heap_alloc_new w2 (.cells #[S [99], S d, S c] 9)
            generalize w2.alloc (.cells #[S [99], S d, S c] 9) = w3 at *
            generalize w2.heap.size = g at *
            clear HB2 HH2
            obtain ⟨c0, c1, c2, _⟩ := three_at' hg3
            have HG3 := Lib.hid hg3
            clear hg3
            go_wp2_with fail
            refine (HNB.out _ (HT.out.keep HB3.out hB0) (HE.out.below HB3.out hB3 hB4)).mono ?_
            rintro e w4 ⟨⟨v4, rfl, hv4⟩, hb4⟩
            have HB4 := Lib.hid (HB3.out.trans (hb4.mono (Nat.le_trans hBw HB3.out.size)))
            have HH4 := Lib.hid (HH3.out.below hb4)
            have hg4 := (hb4.block g (Array.getElem?_eq_some_iff.1 HG3.out).1).trans HG3.out
            obtain ⟨d0, d1, d2, _⟩ := three_at' hg4
            have HG4 := Lib.hid hg4
            clear hb4 hg4 HB3 HH3
            obtain rfl := HV4.out v4 hv4
            clear hv4
            rw [show (some i2).isSome = true from rfl]
            have HRR := Lib.hid hR
            clear hR
            go_wp2_with fail
            refine (HNC.out _ (HT.out.keep HB4.out hB0) (HE.out.below HB4.out hB3 hB4)).mono ?_
            rintro e w5 ⟨⟨v5, rfl, hv5⟩, hb5⟩
            obtain rfl := HV5.out v5 hv5
            have HB5 := Lib.hid (HB4.out.trans (hb5.mono (Nat.le_trans hBw HB4.out.size)))
            have HH5 := Lib.hid (HH4.out.below hb5)
            clear hb5 hv5
            rw [show (some k2).isSome = true from rfl]
            go_wp2_with fail
            refine (cut_s F B b s i2 k2 w5 HH5.out (HT.out.keep HB5.out hB0) hs hB0).mono ?_
            rw [← HRR.out]
            rintro e w6 ⟨rfl, hb6, hk6⟩
            have HB6 := Lib.hid (HB5.out.trans hb6)
            have HK6 := Lib.hid hk6
            clear hb6 hk6
            go_wp2_with fail
            go_ret
            exact ⟨rfl, HB6.out, HK6.out⟩
        · have q4 : (a == [99]) = false := by simpa using ha2
          have hR : R = (2, s) := by rw [HX5.out, if_neg ha, if_neg ha2]
          subst hR
          clear HX5 HNC ha ha2
          go_enter Tryz.func26, Tryz.ntmps26
          go_wp2_with fail
          refine (HLI.out _).mono ?_
          rintro e w' ⟨rfl, rfl⟩
          go_wp2_with fail
          refine (HND.out _ HT.out HE.out).mono ?_
          rintro e w1 ⟨⟨v, rfl, hv⟩, hb1⟩
          obtain rfl := HV.out v hv
          have HB1 := Lib.hid (hb1.mono hBw)
          have HH1 := Lib.hid (HH.out.below hb1)
          clear hb1 hv
          rw [show (some n).isSome = true from rfl]
          go_wp2_with fail
          refine (HSU.out _ hPl).mono ?_
          rintro e w2 ⟨rfl, hb2⟩
          have HB2 := Lib.hid (HB1.out.trans (hb2.mono (Nat.le_trans hBw HB1.out.size)))
          have HH2 := Lib.hid (HH1.out.below hb2)
          clear hb2 HB1 HH1
          go_wp2_with fail
          refine (HSP3.out _ (HM.out.below HB2.out hB1)).mono ?_
          rintro e w' ⟨rfl, rfl⟩
          have HB3 := Lib.hid (HB2.out.alloc (Nat.le_trans hBw HB2.out.size) (.cells #[S a, S d, S c] 9))
          have HH3 := Lib.hid (HH2.out.below ((Below.refl _ w2).alloc (Nat.le_refl _) (.cells #[S a, S d, S c] 9)))
          have hg3 := heap_alloc_new w2 (.cells #[S a, S d, S c] 9)
          generalize w2.alloc (.cells #[S a, S d, S c] 9) = w3 at *
          generalize w2.heap.size = g at *
          clear HB2 HH2
          obtain ⟨c0, c1, c2, _⟩ := three_at' hg3
          have HG3 := Lib.hid hg3
          clear hg3
          go_wp2_with fail
          refine (HNB.out _ (HT.out.keep HB3.out hB0) (HE.out.below HB3.out hB3 hB4)).mono ?_
          rintro e w4 ⟨⟨v4, rfl, hv4⟩, hb4⟩
          have HB4 := Lib.hid (HB3.out.trans (hb4.mono (Nat.le_trans hBw HB3.out.size)))
          have HH4 := Lib.hid (HH3.out.below hb4)
          have hg4 := (hb4.block g (Array.getElem?_eq_some_iff.1 HG3.out).1).trans HG3.out
          obtain ⟨d0, d1, d2, _⟩ := three_at' hg4
          have HG4 := Lib.hid hg4
          clear hb4 hg4 HB3 HH3
          obtain rfl := HV4.out v4 hv4
          clear hv4
          rw [show (some i2).isSome = true from rfl]
          go_wp2_with fail
          go_ret
          exact ⟨rfl, HB4.out, HH4.out⟩
end Go.Proofs.YteoofkinmilckaaGreatDoor
