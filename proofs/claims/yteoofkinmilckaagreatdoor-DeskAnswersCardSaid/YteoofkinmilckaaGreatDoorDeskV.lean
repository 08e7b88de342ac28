/- package desk's verbs. Condition: as of book's Open; errors.errorType. -/
import Derived.Test.YteoofkinmilckaaGreatDoorBookOd
import Derived.Test.YteoofkinmilckaaGreatDoorBookOe
import Derived.Test.YteoofkinmilckaaGreatDoorDeskF
import Derived.Test.YteoofkinmilckaaGreatDoorDeskW
import Derived.Test.YteoofkinmilckaaGreatDoorDeskS
namespace Go.Proofs.YteoofkinmilckaaGreatDoor
open Go.RowKit Go.Shelf IntWalk
attribute [local go_sem] byte_at str_app
attribute [local go_sem ↓] Go.wp_at_zero Go.wp_at_succ

theorem HG.keep {w w' : World} {B : Nat} (h : HG w) (hb : Below B w w') (hB : 0 < B) : HG w' := (hb.cell (p := ⟨0, 0, none⟩) hB).trans h
theorem EV.keep {w w' : World} {B : Nat} (h : EV w) (hb : Below B w w') (h1 : 2 < B) (h2 : 3 < B) : EV w' := h.below hb h1 h2
/-- What a session says: of a word sought, of a crash, of a line. -/
def badM : List UInt8 := [98, 97, 100]
def findA (now x : List UInt8) : List UInt8 := if findE now x = 0 then Lib.decDigits (occ x now).length else toldM (findE now x)
def crashA (s : BS) (n : Nat) : BS × List UInt8 := if (openR (s.txt.take n)).2.2 = 0 then ((openR (s.txt.take n)).1, [102, 111, 117, 110, 100, 32] ++ Lib.decDigits (openR (s.txt.take n)).2.1) else (s, toldM (openR (s.txt.take n)).2.2)

set_option maxRecDepth 100000 in
set_option maxHeartbeats 2000000 in
theorem dput_any (F : Nat → Option Obj) (B db bk : Nat) (s : BS) (n : Nat) (x : List UInt8) (w : World) (A : Option Addr) (c gw : Nat) (hF : F db = some (dObj bk)) (h : Bks F B bk s w) (ht : TG w) (hg : HG w) (hs : Smalls s) (hx : x.length ≤ 100000)
    (hl : Ints w w.heap.size A 1 [(n : Int)]) (hw0 : w.cell? ⟨gw, 2, none⟩ = some (S x)) (hBw : B ≤ w.heap.size) (hB0 : 4 < B) (hB5 : 0 < B) :
    Calls Tryz.prog 54 #[.pointer (some ⟨db, 0, none⟩), .slice A 1 c, .slice (some ⟨gw, 1, none⟩) 2 2] w fun e w' => e = .returned (S (toldM (putS s n x).1)) ∧ Bks F B bk (putS s n x).2 w' ∧ Below B w w' := by
  obtain ⟨gl, ol, rfl, hgl, hc0⟩ := hl.at_ (k := 0) (by omega)
  rw [show gi [(n : Int)] 0 = n from rfl, Nat.add_zero] at hc0
  have cd : w.cell? ⟨db, 0, none⟩ = some (.pointer (some ⟨bk, 0, none⟩)) := by rw [Lib.cell_of_heap (h.frame hF)]; rfl
  have HP := Lib.hid (put_s F B bk s x n w.drew (h.below (Below.drew (Below.refl _ w))) ht hs (by omega) hBw hB0)
  have HG0 := Lib.hid hg
  have HD := Lib.hid (Below.drew (Below.refl B w))
  generalize putS s n x = R at *
  clear hl h ht hg hs
  go_enter Tryz.func54, Tryz.ntmps54
  go_wp2_with fail
  go_region_with (first
    | (refine HP.out.mono ?_; rintro e w5 ⟨rfl, hb5, hk5⟩)
    | (refine (toldD_any R.1 w5 (HG0.out.keep (HD.out.trans hb5) hB5)).mono ?_; rintro e w6 ⟨rfl, hb6⟩))
  all_goals
    have HF1 := Lib.hid (hk5.below hb6)
    have HF2 := Lib.hid ((HD.out.trans hb5).trans (hb6.mono (Nat.le_trans hBw (HD.out.trans hb5).size)))
    clear hb5 hk5 hb6
    go_wp2_with fail
    go_ret
    exact ⟨rfl, HF1.out, HF2.out⟩

set_option maxRecDepth 100000 in
set_option maxHeartbeats 2000000 in
theorem dcut_any (F : Nat → Option Obj) (B db bk : Nat) (s : BS) (n k : Nat) (w : World) (A : Option Addr) (c : Nat) (W2 : Value) (hF : F db = some (dObj bk)) (h : Bks F B bk s w) (ht : TG w) (hg : HG w) (hs : Smalls s)
    (hl : Ints w w.heap.size A 2 [(n : Int), (k : Int)]) (hBw : B ≤ w.heap.size) (hB0 : 4 < B) (hB5 : 0 < B) :
    Calls Tryz.prog 55 #[.pointer (some ⟨db, 0, none⟩), .slice A 2 c, W2] w fun e w' => e = .returned (S (toldM (cutS s n k).1)) ∧ Bks F B bk (cutS s n k).2 w' ∧ Below B w w' := by
  obtain ⟨gl, ol, rfl, hgl, hc0⟩ := hl.at_ (k := 0) (by omega)
  obtain ⟨gl', ol', e1, _, hc1⟩ := hl.at_ (k := 1) (by omega)
  injection e1 with e1
  injection e1 with e1 e2 _
  subst e1 e2
  rw [show gi [(n : Int), (k : Int)] 0 = n from rfl, Nat.add_zero] at hc0
  rw [show gi [(n : Int), (k : Int)] 1 = k from rfl] at hc1
  have cd : w.cell? ⟨db, 0, none⟩ = some (.pointer (some ⟨bk, 0, none⟩)) := by rw [Lib.cell_of_heap (h.frame hF)]; rfl
  have HP := Lib.hid (cut_s F B bk s n k w.drew (h.below (Below.drew (Below.refl _ w))) ht hs hB0)
  have HG0 := Lib.hid hg
  have HD := Lib.hid (Below.drew (Below.refl B w))
  generalize cutS s n k = R at *
  clear hl h ht hg hs
  go_enter Tryz.func55, Tryz.ntmps55
  go_wp2_with fail
  go_region_with (first
    | (refine HP.out.mono ?_; rintro e w5 ⟨rfl, hb5, hk5⟩)
    | (refine (toldD_any R.1 w5 (HG0.out.keep (HD.out.trans hb5) hB5)).mono ?_; rintro e w6 ⟨rfl, hb6⟩))
  all_goals
    have HF1 := Lib.hid (hk5.below hb6)
    have HF2 := Lib.hid ((HD.out.trans hb5).trans (hb6.mono (Nat.le_trans hBw (HD.out.trans hb5).size)))
    clear hb5 hk5 hb6
    go_wp2_with fail
    go_ret
    exact ⟨rfl, HF1.out, HF2.out⟩

set_option maxHeartbeats 1000000 in
theorem dnow_any (F : Nat → Option Obj) (B db bk : Nat) (s : BS) (w : World) (L W2 : Value) (hF : F db = some (dObj bk)) (h : Bks F B bk s w) (hs : Smalls s) :
    Calls Tryz.prog 56 #[.pointer (some ⟨db, 0, none⟩), L, W2] w fun e w' => e = .returned (S (s.now ++ [46])) ∧ w = w' := by
  have cd : w.cell? ⟨db, 0, none⟩ = some (.pointer (some ⟨bk, 0, none⟩)) := by rw [Lib.cell_of_heap (h.frame hF)]; rfl
  have HN := Lib.hid (now_any F B bk s.now s.txt s.many w h)
  have hl : s.now.length ≤ 24 := hs.1
  have hl2 : ¬ 9223372036854775807 < s.now.length + 1 := by omega
  clear h hs
  go_enter Tryz.func56, Tryz.ntmps56
  go_wp2_with fail
  refine HN.out.mono ?_
  rintro e w' ⟨rfl, rfl⟩
  go_wp2_with fail
  go_ret
  exact ⟨rfl, rfl⟩

set_option maxRecDepth 100000 in
set_option maxHeartbeats 4000000 in
theorem dfind_any (F : Nat → Option Obj) (B db bk : Nat) (s : BS) (x : List UInt8) (w : World) (L : Value) (gw : Nat) (hF : F db = some (dObj bk)) (h : Bks F B bk s w) (ht : TG w) (hg : HG w) (hs : Smalls s) (hx : x.length ≤ 100000)
    (hw0 : w.cell? ⟨gw, 1, none⟩ = some (S x)) :
    Calls Tryz.prog 57 #[.pointer (some ⟨db, 0, none⟩), L, .slice (some ⟨gw, 1, none⟩) 1 1] w fun e w' => e = .returned (S (findA s.now x)) ∧ Below w.heap.size w w' := by
  have cd : w.cell? ⟨db, 0, none⟩ = some (.pointer (some ⟨bk, 0, none⟩)) := by rw [Lib.cell_of_heap (h.frame hF)]; rfl
  have HN := Lib.hid (now_any F B bk s.now s.txt s.many w.drew (h.below (Below.drew (Below.refl _ w))))
  have hl : s.now.length ≤ 24 := hs.1
  have HFI := Lib.hid (find_any s.now x w.drew (by omega) (by omega))
  have HA : Hid (findA s.now x = if findE s.now x = 0 then Lib.decDigits (occ x s.now).length else toldM (findE s.now x)) := Lib.hid rfl
  have HOL := Lib.hid (occ_len x s.now)
  generalize findA s.now x = Rr at *
  generalize findE s.now x = e0 at *
  generalize occ x s.now = oc at *
  have HG0 := Lib.hid hg
  have HT := Lib.hid ht
  have HD := Lib.hid (Below.drew (Below.refl w.heap.size w))
  clear h ht hg hs
  by_cases he : e0 = 0
  · subst he
    rw [show errV 0 = .nilIface from rfl] at HFI
    have HA2 : Hid (Rr = Lib.itoa (oc.length : Int)) := Lib.hid (by rw [HA.out, if_pos rfl, Lib.itoa_nonneg])
    clear HA
    go_enter Tryz.func57, Tryz.ntmps57
    go_wp2_with fail
    go_region_with (first
      | (refine HN.out.mono ?_; rintro e w5 ⟨rfl, rfl⟩)
      | (refine HFI.out.mono ?_; rintro e w6 ⟨⟨A, n, c, rfl, hin⟩, hb6⟩))
    all_goals
      have hi := hin trivial
      have hn : (oc.map fun p : Nat => (p : Int)).length = n := hi.1
      rw [List.length_map] at hn
      subst hn
      have HB6 := Lib.hid (HD.out.trans hb6)
      have HIT := Lib.hid (itoa_any oc.length w6 (by have := HOL.out; omega) (HT.out.below HB6.out (Nat.le_refl _)))
      clear hin hi hb6
      go_wp2_with fail
      refine HIT.out.mono ?_
      rintro e w7 ⟨rfl, hb7⟩
      have HB7 := Lib.hid (HB6.out.trans (hb7.mono HB6.out.size))
      clear hb7
      go_wp2_with fail
      go_ret
      exact ⟨by rw [HA2.out]; rfl, HB7.out⟩
  · rw [err_ne he] at HFI
    have HE := Lib.hid he
    have HE2 := Lib.hid (err_ne he)
    have HA2 : Hid (Rr = toldM e0) := Lib.hid (by rw [HA.out, if_neg he])
    clear he HA
    go_enter Tryz.func57, Tryz.ntmps57
    go_wp2_with fail
    go_region_with (first
      | (refine HN.out.mono ?_; rintro e w5 ⟨rfl, rfl⟩)
      | (refine HFI.out.mono ?_; rintro e w6 ⟨⟨A, n, c, rfl, hin⟩, hb6⟩))
    all_goals
      have HB6 := Lib.hid (HD.out.trans hb6)
      have htd := toldD_any e0 w6 (HG0.out.below HB6.out (Nat.le_refl _))
      rw [HE2.out] at htd
      have HTD := Lib.hid htd
      clear hin hb6 htd
      go_wp2_with fail
      refine HTD.out.mono ?_
      rintro e w7 ⟨rfl, hb7⟩
      have HB7 := Lib.hid (HB6.out.trans (hb7.mono HB6.out.size))
      clear hb7
      go_wp2_with fail
      go_ret
      exact ⟨by rw [HA2.out]; rfl, HB7.out⟩
theorem openD_many : ∀ (ls : List (List UInt8)) (s : BS) (k : Nat), (openD ls s k).2.1 ≤ k + ls.length
  | [], _, _ => Nat.le_refl _
  | l :: ls, s, k => by
    unfold openD
    split
    · show k + 1 ≤ k + (ls.length + 1); omega
    · have := openD_many ls (lineR s l).2 (k + 1)
      simp only [List.length_cons]; omega
theorem cutB_count (c : UInt8) : ∀ l : List UInt8, (cutB c l).length ≤ l.length + 1 := by
  intro l
  induction l with
  | nil => simp [cutB]
  | cons x l ih =>
    unfold cutB
    split
    · simp; omega
    · cases hq : cutB c l with
      | nil => simp
      | cons a b => rw [hq] at ih; simp at ih ⊢; omega
theorem openR_many (T : List UInt8) : (openR T).2.1 ≤ 2001 := by
  unfold openR
  split
  · exact Nat.zero_le _
  · have h1 := openD_many (cutB 10 T).dropLast eBS 0
    have h2 := cutB_count 10 T
    rw [List.length_dropLast] at h1
    omega
/-- Open, at any text: the book lies in blocks of its own. -/
theorem open_all (T : List UInt8) (w : World) (h9 : T.length ≤ 100000) (ht : TG w) (hm : ML w) (he : EV w) :
    Calls Tryz.prog 11 #[S T] w fun e w' => (((openR T).2.2 = 0 ∧ ∃ b, e = .returned (.tuple #[.pointer (some ⟨b, 0, none⟩), .int .i64 ((openR T).2.1 : Int), .nilIface]) ∧ Bks nF w.heap.size b (openR T).1 w') ∨
      ((openR T).2.2 ≠ 0 ∧ e = .returned (.tuple #[.pointer none, .int .i64 ((openR T).2.1 : Int), errV (openR T).2.2]))) ∧ Below w.heap.size w w' := by
  by_cases hl : 2000 < T.length
  · have hR : openR T = (eBS, 0, 4) := if_pos hl
    rw [hR]
    refine (open_long T w hl (by omega)).mono ?_
    rintro e w' ⟨rfl, hb⟩
    exact ⟨.inr ⟨by show (4 : Int) ≠ 0; decide, rfl⟩, hb⟩
  · have hR : openR T = openD (cutB 10 T).dropLast eBS 0 := if_neg hl
    rw [hR]
    refine (open_gen T w (by omega) ht hm he).mono ?_
    rintro e w' ⟨hs, hb⟩
    refine ⟨?_, hb⟩
    rcases opens_doc hs with ⟨h0, b, rfl, hk, _⟩ | ⟨h0, rfl⟩
    · exact .inl ⟨h0, b, rfl, hk⟩
    · exact .inr ⟨h0, rfl⟩
/-- The desk takes another book. -/
theorem Bk.take {F : Nat → Option Obj} {B db bk b many : Nat} {now txt now' txt' : List UInt8} {many' : Nat} {w0 w : World} (hF : F db = some (dObj bk)) (h : Bk F B bk now txt many w0) (hb : Below w0.heap.size w0 w) (ho : Bk nF w0.heap.size b now' txt' many' w) (hB : B ≤ w0.heap.size) :
    Bk (upd F db (dObj b)) B b now' txt' many' (w.setCell ⟨db, 0, none⟩ (.pointer (some ⟨b, 0, none⟩))) := by
  have hfr : ∀ (k : Nat) (o : Obj), F k = some o → w0.heap[k]? = some o ∧ k < w0.heap.size := fun k o hk => ⟨h.frame hk, (Array.getElem?_eq_some_iff.1 (h.frame hk)).1⟩
  have hd := hfr db _ hF
  have hle := ho.le
  have hdw : w.heap[db]? = some (dObj bk) := (hb.block db hd.2).trans hd.1
  refine ho.refence hB (fun k o hk _ hw _ => (Below.heap_setCell _ _ _ k (by show k ≠ db; omega)).trans hw) (fun k o hk => ?_)
  by_cases hkd : k = db
  · subst hkd
    rw [upd_self] at hk
    obtain rfl := Option.some.inj hk
    refine ⟨?_, .inl hd.2⟩
    simp [World.setCell, Array.getElem?_modify, hdw]
  · rw [upd_ne hkd] at hk
    obtain ⟨h1, h2⟩ := hfr k o hk
    exact ⟨(Below.heap_setCell _ _ _ k hkd).trans ((hb.block k h2).trans h1), .inl h2⟩

/-- One number of the call's own. -/
theorem own_num {w : World} {base : Nat} {v : Value} {n : Int} (h : w.ownsRow base 3 1 v 1 [.int .i64 n]) : ∃ g c o, v = .slice (some ⟨g, 0, none⟩) 1 c ∧ base ≤ g ∧ w.heap[g]? = some o ∧ w.cell? ⟨g, 0, none⟩ = some (.int .i64 n) := by
  rcases h.2 with ⟨_, h0⟩ | ⟨g, cap, cur, rfl, hb, hg, _⟩
  · omega
  · have := h.cells (g := g) rfl 0 (.int .i64 n) rfl
    rw [Addr.add_lit] at this
    exact ⟨g, cap, _, rfl, hb, hg, this⟩
set_option maxRecDepth 100000 in
set_option maxHeartbeats 4000000 in
theorem dcrash_any (F : Nat → Option Obj) (B db bk gl : Nat) (og : Obj) (s : BS) (n : Nat) (w : World) (c : Nat) (W2 : Value) (hF : F db = some (dObj bk)) (hFl : F gl = some og) (h : Bks F B bk s w) (ht : TG w) (hm : ML w) (he : EV w) (hg : HG w) (hs : Smalls s)
    (hc0 : w.cell? ⟨gl, 0, none⟩ = some (.int .i64 (n : Int))) (hBw : B ≤ w.heap.size) (hBd : B ≤ db) (hB0 : 4 < B) (hB1 : 1 < B) (hB3 : 2 < B) (hB4 : 3 < B) (hB5 : 0 < B) :
    Calls Tryz.prog 58 #[.pointer (some ⟨db, 0, none⟩), .slice (some ⟨gl, 0, none⟩) 1 c, W2] w fun e w' => e = .returned (S (crashA s n).2) ∧ (∃ bk', Bks (upd F db (dObj bk')) B bk' (crashA s n).1 w') ∧ Below B w w' := by
  have cd : w.cell? ⟨db, 0, none⟩ = some (.pointer (some ⟨bk, 0, none⟩)) := by rw [Lib.cell_of_heap (h.frame hF)]; rfl
  have HTX := Lib.hid (text_all F B bk s.now s.txt s.many w h hBw)
  have htl : s.txt.length ≤ 4800 := by obtain ⟨_, h2, h3⟩ := hs; omega
  have HA : Hid (crashA s n = if (openR (s.txt.take n)).2.2 = 0 then ((openR (s.txt.take n)).1, [102, 111, 117, 110, 100, 32] ++ Lib.decDigits (openR (s.txt.take n)).2.1) else (s, toldM (openR (s.txt.take n)).2.2)) := Lib.hid rfl
  have HOM := Lib.hid (openR_many (s.txt.take n))
  have HOP := Lib.hid (fun W (hT : TG W) (hM : ML W) (hE : EV W) => open_all (s.txt.take n) W (by rw [List.length_take]; omega) hT hM hE)
  have htk : s.txt.take n = s.txt.take (min n s.txt.length) := by
    rcases Nat.le_total n s.txt.length with h | h
    · rw [Nat.min_eq_left h]
    · rw [Nat.min_eq_right h, List.take_of_length_le h, List.take_of_length_le (Nat.le_refl _)]
  have hx2 := str_to s.txt (min n s.txt.length)
  rw [← htk] at hx2
  generalize openR (s.txt.take n) = R at *
  generalize s.txt.take n = T at *
  obtain ⟨s1, m1, e1⟩ := R
  have HG0 := Lib.hid hg; have HT := Lib.hid ht; have HM := Lib.hid hm; have HE := Lib.hid he
  have HF := Lib.hid hF
  have hgl : w.heap[gl]? = some og := h.frame hFl
  generalize crashA s n = Rr at *
  obtain ⟨mn, hmn⟩ : ∃ mn, mn = min n s.txt.length := ⟨_, rfl⟩
  rw [← hmn] at hx2
  have hmin : min (n : Int) (s.txt.length : Int) = (mn : Int) := by omega
  have hmin2 : mn ≤ s.txt.length := by omega
  have hmin3 : (mn : Int) ≤ (s.txt.length : Int) := by omega
  clear h ht hm he hg hs htk hF hmn
  go_enter Tryz.func58, Tryz.ntmps58
  go_wp2_with fail
  refine HTX.out.mono ?_
  rintro e w1 ⟨rfl, hk1, hb1⟩
  have HB1 := Lib.hid hb1
  have HK1 := Lib.hid hk1
  have hz1 := hb1.size
  have hc1 : w1.cell? ⟨gl, 0, none⟩ = some (.int .i64 (n : Int)) := by
    have e : w1.heap[gl]? = w.heap[gl]? := by rw [hk1.frame hFl, hgl]
    rw [← hc0]; unfold World.cell?; simp only [e]
  clear hb1 hk1 hgl cd hc0
  go_wp2_with fail
  refine (HOP.out _ (HT.out.keep HB1.out hB0) (HM.out.below HB1.out hB1) (HE.out.keep HB1.out hB3 hB4)).mono ?_
  rintro e w2 ⟨hr, hb2⟩
  have HB2 := Lib.hid (HB1.out.trans (hb2.mono (Nat.le_trans hBw hz1)))
  have hdw : w2.heap[db]? = some (dObj bk) := (hb2.block db (Array.getElem?_eq_some_iff.1 (HK1.out.frame HF.out)).1).trans (HK1.out.frame HF.out)
  have hdc : w2.cell? ⟨db, 0, none⟩ = some (.pointer (some ⟨bk, 0, none⟩)) := by rw [Lib.cell_of_heap hdw]; rfl
  have hdf : w2.frozen? ⟨db, 0, none⟩ = false := Lib.frozen_of_heap hdw 0
  clear hx2 hmin hmin2 hmin3 hc1 hdw
  rcases hr with ⟨h0, b, rfl, hk2⟩ | ⟨h0, rfl⟩
  · have h0' : e1 = 0 := h0
    subst h0'
    have hK3 := Bk.take HF.out HK1.out hb2 hk2 (Nat.le_trans hBw hz1)
    have HK3 := Lib.hid hK3
    have HB3 := Lib.hid (HB2.out.setCell (p := ⟨db, 0, none⟩) hBd (.pointer (some ⟨b, 0, none⟩)))
    have hml := itoa_len m1 (by have := HOM.out; omega)
    have HIT := Lib.hid (itoa_any m1 (w2.setCell ⟨db, 0, none⟩ (.pointer (some ⟨b, 0, none⟩))) (by have := HOM.out; omega) (HT.out.keep HB3.out hB0))
    have HA2 : Hid (Rr = (s1, [102, 111, 117, 110, 100, 32] ++ Lib.itoa (m1 : Int))) := Lib.hid (by rw [HA.out, if_pos rfl, Lib.itoa_nonneg])
    generalize Lib.itoa (m1 : Int) = I at *
    have hml2 : ¬ 9223372036854775807 < 6 + I.length := by omega
    clear hK3 hb2 hk2 h0
    go_wp2_with fail
    refine HIT.out.mono ?_
    rintro e w4 ⟨rfl, hb4⟩
    have HK4 := Lib.hid (HK3.out.below hb4)
    have HB4 := Lib.hid (HB3.out.trans (hb4.mono (Nat.le_trans hBw HB3.out.size)))
    clear hb4
    go_wp2_with fail
    go_ret
    exact ⟨by rw [HA2.out]; rfl, ⟨b, by rw [HA2.out]; exact HK4.out⟩, HB4.out⟩
  · have h0' : e1 ≠ 0 := h0
    have HA2 : Hid (Rr = (s, toldM e1)) := Lib.hid (by rw [HA.out, if_neg h0'])
    have HTD := Lib.hid (toldD_any e1 w2 (HG0.out.keep HB2.out hB5))
    have HE1 := Lib.hid (err_ne h0')
    have HK2 := Lib.hid (HK1.out.below hb2)
    rw [HE1.out] at HTD ⊢
    clear h0 hb2 h0'
    go_wp2_with fail
    refine HTD.out.mono ?_
    rintro e w4 ⟨rfl, hb4⟩
    have HK4 := Lib.hid (HK2.out.below hb4)
    have HB4 := Lib.hid (HB2.out.trans (hb4.mono (Nat.le_trans hBw HB2.out.size)))
    clear hb4
    go_wp2_with fail
    go_ret
    exact ⟨by rw [HA2.out]; rfl, ⟨bk, by rw [HA2.out, upd_same HF.out]; exact HK4.out⟩, HB4.out⟩
end Go.Proofs.YteoofkinmilckaaGreatDoor
