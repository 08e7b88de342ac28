/- package desk's number and told, api's Error; the map of verbs. Condition: as of book's number; errors.errorType. -/
import Derived.Test.YteoofkinmilckaaGreatDoorBookV
import Derived.Test.YteoofkinmilckaaGreatDoorAs
import Derived.MapKept
namespace Go.Proofs.YteoofkinmilckaaGreatDoor
open Go.RowKit IntWalk
attribute [local go_sem] byte_at str_app
attribute [local go_sem ↓] Go.wp_at_zero Go.wp_at_succ

/-- A number of a session. -/
def numD (l : List UInt8) : Option Nat := if l.length ≤ 7 then numO l else none
set_option maxRecDepth 100000 in
set_option maxHeartbeats 1000000 in
theorem number7_any (l : List UInt8) (w : World) (hl : l.length ≤ 100000) (ht : TG w) (he : EV w) :
    Calls Tryz.prog 59 #[S l] w fun e w' => (∃ v, e = .returned (.tuple #[.int .i64 v, .bool (numD l).isSome]) ∧ ∀ n, numD l = some n → v = (n : Int)) ∧ Below w.heap.size w w' := by
  obtain ⟨⟨t1, p1, he1⟩, t2, p2, he2⟩ := he
  cases ha : Lib.atoiAll l with
  | ok v =>
    have hb := Lib.atoiAll_bounds ha
    have HO := Lib.hid (show numD l = if l.length ≤ 7 ∧ 0 ≤ v ∧ Lib.itoa v = l then some v.toNat else none by unfold numD numO; rw [ha]; by_cases h7 : l.length ≤ 7 <;> simp [h7])
    have HA := Lib.hid (Tryz.strconv_Atoi_ok ⟨l.toArray⟩ (by simp [ByteArray.size]; omega) v (by simpa using ha) w)
    have HI := Lib.hid (fun W (h : TG W) => Tryz.strconv_Itoa v hb.1 hb.2 W h)
    have HT := Lib.hid ht
    clear ht ha he1 he2
    generalize numD l = o at *
    go_enter Tryz.func59, Tryz.ntmps59
    go_wp2_with fail
    refine HA.out.mono ?_
    rintro e w1 ⟨rfl, hw⟩
    have HB1 : Hid (Below w.heap.size w w1) := by
      rcases hw with rfl | ⟨t, rfl⟩
      · exact Lib.hid (Below.refl _ _)
      · exact Lib.hid (Go.Joins.below_bytesWorld w.heap.size w 5 t (Nat.le_refl _))
    clear hw HA
    by_cases h0 : 0 ≤ v
    · by_cases h7 : l.length ≤ 7
      · have p7 : (l.length : Int) ≤ 7 := by omega
        go_wp2_with fail
        refine (HI.out _ (HT.out.below HB1.out (Nat.le_refl _))).mono ?_
        rintro e w2 ⟨rfl, k, os, hw2⟩
        have HB2 : Hid (Below w.heap.size w w2) := Lib.hid (by rw [hw2]; exact HB1.out.trans (Lib.below_grow _ w1 HB1.out.size k os))
        have H0 := Lib.hid h0
        have H7 := Lib.hid h7
        clear hw2 h0 h7 p7
        generalize hI : Lib.itoa v = I at *
        clear hI
        by_cases hc : I = l
        · subst hc
          have HO2 : Hid (o = some v.toNat) := Lib.hid (by rw [HO.out, if_pos ⟨H7.out, H0.out, rfl⟩])
          clear HO
          go_wp2_with fail
          go_ret2
          exact ⟨⟨v, by rw [HO2.out]; simp, fun n hn => by rw [HO2.out] at hn; obtain rfl := Option.some.inj hn; have := H0.out; omega⟩, HB2.out⟩
        · have HO2 : Hid (o = none) := Lib.hid (by rw [HO.out, if_neg (fun h => hc h.2.2)])
          have hne : (I == l) = false := by simpa using hc
          clear HO hc
          go_wp2_with fail
          go_ret2
          exact ⟨⟨v, by rw [HO2.out]; simp, fun n hn => by rw [HO2.out] at hn; cases hn⟩, HB2.out⟩
      · have HO2 : Hid (o = none) := Lib.hid (by rw [HO.out, if_neg (fun h => h7 h.1)])
        have p7 : ¬ (l.length : Int) ≤ 7 := by omega
        clear HO HI h7
        go_wp2_with fail
        go_ret2
        exact ⟨⟨v, by rw [HO2.out]; simp, fun n hn => by rw [HO2.out] at hn; cases hn⟩, HB1.out⟩
    · have HO2 : Hid (o = none) := Lib.hid (by rw [HO.out, if_neg (fun h => h0 h.2.1)])
      clear HO HI
      go_wp2_with fail
      go_ret2
      exact ⟨⟨v, by rw [HO2.out]; simp, fun n hn => by rw [HO2.out] at hn; cases hn⟩, HB1.out⟩
  | range =>
    have HO := Lib.hid (show numD l = none by unfold numD numO; rw [ha]; split <;> rfl)
    have HA := Lib.hid (Tryz.strconv_Atoi_range ⟨l.toArray⟩ (by simp [ByteArray.size]; omega) (by simpa using ha) _ w he2 (.inr ⟨_, _, rfl⟩))
    clear ht ha he1 he2
    generalize numD l = o at *
    go_enter Tryz.func59, Tryz.ntmps59
    go_wp2_with fail
    refine HA.out.mono ?_
    rintro e w1 ⟨N, rfl, _, _, hb1⟩
    have HB1 := Lib.hid hb1
    clear hb1 HA
    go_wp2_with fail
    go_ret2
    exact ⟨⟨_, by rw [HO.out]; rfl, fun n hn => by rw [HO.out] at hn; cases hn⟩, HB1.out⟩
  | _ =>
    have HO := Lib.hid (show numD l = none by unfold numD numO; rw [ha]; split <;> rfl)
    have HA := Lib.hid (Go.Proofs.Any.strconv_Atoi_syntax Tryz.laysC172 ⟨l.toArray⟩ (by simp [ByteArray.size]; omega) (by simpa using ha) _ w he1 (.inr ⟨_, _, rfl⟩))
    clear ht ha he1 he2
    generalize numD l = o at *
    go_enter Tryz.func59, Tryz.ntmps59
    go_wp2_with fail
    refine HA.out.mono ?_
    rintro e w1 ⟨N, rfl, _, _, hb1⟩
    have HB1 := Lib.hid hb1
    clear hb1 HA
    go_wp2_with fail
    go_ret2
    exact ⟨⟨_, by rw [HO.out]; rfl, fun n hn => by rw [HO.out] at hn; cases hn⟩, HB1.out⟩
/-- What an error is called. -/
def errName (k : Int) : List UInt8 :=
  if k = 0 then [79, 75] else if k = 1 then [69, 114, 114, 82, 97, 110, 103, 101] else if k = 2 then [69, 114, 114, 83, 121, 110, 116, 97, 120] else if k = 3 then [69, 114, 114, 83, 104, 97, 112, 101] else if k = 4 then [69, 114, 114, 70, 117, 108, 108] else if k = 5 then [69, 114, 114, 78, 111, 110, 101] else if k = 6 then [69, 114, 114, 67, 108, 97, 115, 104] else if k = 7 then [69, 114, 114, 83, 116, 97, 116, 101] else [69, 114, 114, 110, 111]
set_option maxHeartbeats 1000000 in
theorem errname_any (k : Int) (w : World) : Calls Tryz.prog 82 #[.int .i64 k] w fun e w' => e = .returned (S (errName k)) ∧ w = w' := by
  by_cases h0 : k = 0
  · subst h0
    go_enter Tryz.func82, Tryz.ntmps82
    go_wp2_with fail
    go_ret
    exact ⟨rfl, rfl⟩
  by_cases h1 : k = 1
  · subst h1
    go_enter Tryz.func82, Tryz.ntmps82
    go_wp2_with fail
    go_ret
    exact ⟨rfl, rfl⟩
  by_cases h2 : k = 2
  · subst h2
    go_enter Tryz.func82, Tryz.ntmps82
    go_wp2_with fail
    go_ret
    exact ⟨rfl, rfl⟩
  by_cases h3 : k = 3
  · subst h3
    go_enter Tryz.func82, Tryz.ntmps82
    go_wp2_with fail
    go_ret
    exact ⟨rfl, rfl⟩
  by_cases h4 : k = 4
  · subst h4
    go_enter Tryz.func82, Tryz.ntmps82
    go_wp2_with fail
    go_ret
    exact ⟨rfl, rfl⟩
  by_cases h5 : k = 5
  · subst h5
    go_enter Tryz.func82, Tryz.ntmps82
    go_wp2_with fail
    go_ret
    exact ⟨rfl, rfl⟩
  by_cases h6 : k = 6
  · subst h6
    go_enter Tryz.func82, Tryz.ntmps82
    go_wp2_with fail
    go_ret
    exact ⟨rfl, rfl⟩
  by_cases h7 : k = 7
  · subst h7
    go_enter Tryz.func82, Tryz.ntmps82
    go_wp2_with fail
    go_ret
    exact ⟨rfl, rfl⟩
  have HE := Lib.hid (show errName k = [69, 114, 114, 110, 111] by unfold errName; rw [if_neg h0, if_neg h1, if_neg h2, if_neg h3, if_neg h4, if_neg h5, if_neg h6, if_neg h7])
  have q0 : (k == 0) = false := by simpa using h0
  have q1 : (k == 1) = false := by simpa using h1
  have q2 : (k == 2) = false := by simpa using h2
  have q3 : (k == 3) = false := by simpa using h3
  have q4 : (k == 4) = false := by simpa using h4
  have q5 : (k == 5) = false := by simpa using h5
  have q6 : (k == 6) = false := by simpa using h6
  have q7 : (k == 7) = false := by simpa using h7
  clear h0 h1 h2 h3 h4 h5 h6 h7
  go_enter Tryz.func82, Tryz.ntmps82
  go_wp2_with fail
  go_ret
  exact ⟨by rw [HE.out]; rfl, rfl⟩
/-- What a session says of an error. -/
def toldM (k : Int) : List UInt8 := if k = 0 then [111, 107] else errName k
set_option maxHeartbeats 4000000 in
theorem toldD_any (k : Int) (w : World) (hg : HG w) : Calls Tryz.prog 80 #[errV k] w fun e w' => e = .returned (S (toldM k)) ∧ Below w.heap.size w w' := by
  by_cases hk : k = 0
  · subst hk
    rw [show errV 0 = .nilIface from rfl]
    have HB := Lib.hid ((Below.refl w.heap.size w).alloc (Nat.le_refl _) (.cells #[.int .i64 0] 46))
    go_enter Tryz.func80, Tryz.ntmps80
    go_wp2_with fail
    refine (as_nil _ _).mono ?_
    rintro e w' ⟨rfl, hw⟩
    obtain rfl := hw.symm
    go_wp2_with fail
    go_ret
    exact ⟨rfl, HB.out⟩
  · rw [err_ne hk]
    have HT := Lib.hid (show toldM k = errName k from if_neg hk)
    clear hk
    have hg' : HG (w.alloc (.cells #[.int .i64 0] 46)) := hg.below ((Below.refl w.heap.size w).alloc (Nat.le_refl _) _) (Nat.le_refl _)
    have HGH := Lib.hid hg'
    clear hg hg'
    go_enter Tryz.func80, Tryz.ntmps80
    go_wp2_with fail
    refine (as_hit k ⟨w.heap.size, 0, none⟩ (.int .i64 0) _ HGH.out (by simp) (by simp)).mono ?_
    rintro e w' ⟨rfl, hw⟩
    have hc : w'.cell? ⟨w.heap.size, 0, none⟩ = some (.int .i64 k) := by
      rw [hw]
      refine World.cell?_setCell_same' _ _ _ ?_
      have hb4 : ∀ a b c d : Obj, Below (w.heap.size + 1) (w.alloc (.cells #[.int .i64 0] 46)) (((((w.alloc (.cells #[.int .i64 0] 46)).alloc a).alloc b).alloc c).alloc d) := fun a b c d =>
        ((((Below.refl _ _).alloc (by simp) _).alloc (by simp) _).alloc (by simp) _).alloc (by simp) _
      rw [(hb4 _ _ _ _).cell (p := ⟨w.heap.size, 0, none⟩) (by simp)]
      simp
    have HB : Hid (Below w.heap.size w w') := Lib.hid (by
      rw [hw]
      exact ((((((Below.refl _ w).alloc (Nat.le_refl _) _).alloc (by simp) _).alloc (by simp; omega) _).alloc (by simp; omega) _).alloc (by simp; omega) _).setCell (p := ⟨w.heap.size, 0, none⟩) (Nat.le_refl _) _)
    clear hw
    have HNM := Lib.hid (errname_any k w')
    go_wp2_with fail
    refine HNM.out.mono ?_
    rintro e w2 ⟨rfl, rfl⟩
    go_wp2_with fail
    go_ret
    exact ⟨by rw [HT.out]; rfl, HB.out⟩
/-! The verbs: a map from words to what they want. -/
abbrev vB (m n f : Nat) : Value := .agg #[.int .i64 (m : Int), .int .i64 (n : Int), .func (.func f) #[] #[]]
abbrev vE (k : List UInt8) (m n f i : Nat) : MapEntry := ⟨S k, vB m n f, i⟩
def verbs : List MapEntry := [vE [112, 117, 116] 2 1 54 0, vE [99, 117, 116] 2 2 55 1, vE [110, 111, 119] 0 0 56 2, vE [102, 105, 110, 100] 1 0 57 3, vE [99, 114, 97, 115, 104] 1 1 58 4]
theorem str_beq (a b : List UInt8) : (ByteArray.mk a.toArray == ByteArray.mk b.toArray) = (a == b) := by
  by_cases h : a = b
  · subst h; rw [(MapKept.bytes_beq _ _).2 rfl]; simp
  · have h1 : ¬ ByteArray.mk a.toArray = ByteArray.mk b.toArray := fun e => h (by injection e with e; exact List.toArray_inj e)
    rw [show (a == b) = false by simpa using h]
    cases hq : ByteArray.mk a.toArray == ByteArray.mk b.toArray with
    | false => rfl
    | true => exact absurd ((MapKept.bytes_beq _ _).1 hq) h1
theorem key_ok (W : World) (b : Bool) (k : List UInt8) : (Instr.checkKey b 10000 9 (S k)).run Tryz.prog W = .ok () W := MapKept.run_checkKey (k := S k) Tryz.underlying9 (by simp [MapKept.IsKey]) b 9999
theorem ins_run (W : World) (es : Array MapEntry) (c : Nat) (k : List UInt8) (v : Value) (hn : Instr.findNow .string (S k) es.toList 0 = some none) :
    (Instr.mapUpdate 89 (.map (some W.heap.size)) (S k) v).run Tryz.prog (W.alloc (.map es c)) = .ok () (W.alloc (.map (es.push ⟨S k, v, c⟩) (c + 1))) := by
  have hb : (W.alloc (.map es c)).heap[W.heap.size]? = some (.map es c) := heap_alloc_new W _
  have hw : ∀ o : Obj, (W.alloc (.map es c)).heap.setIfInBounds W.heap.size o = W.heap.push o := fun o => by
    show (W.heap.push (.map es c)).setIfInBounds W.heap.size o = W.heap.push o
    apply Array.ext
    · simp
    · intro i h1 h2
      simp at h1 h2
      rw [Array.getElem_setIfInBounds (by simp; omega), Array.getElem_push, Array.getElem_push]
      by_cases hi : i < W.heap.size
      · rw [if_neg (by omega), dif_pos hi, dif_pos hi]
      · rw [if_pos (by omega), dif_neg hi]
  simp [Instr.mapUpdate, run_underlying Tryz.underlying89, MapKept.run_getObj_map hb, key_ok, MapKept.run_findKey Tryz.underlying9 hn, MapKept.run_setObj_map _ hb, Result.andThen]
  rw [hw]
  rfl
def lookV (x : List UInt8) : Option (Nat × Value) :=
  if x = [112, 117, 116] then some (0, vB 2 1 54) else if x = [99, 117, 116] then some (1, vB 2 2 55) else if x = [110, 111, 119] then some (2, vB 0 0 56) else if x = [102, 105, 110, 100] then some (3, vB 1 0 57) else if x = [99, 114, 97, 115, 104] then some (4, vB 1 1 58) else none
theorem find_verbs (x : List UInt8) : Instr.findNow .string (S x) verbs 0 = some (lookV x) := by
  have hs : ∀ k : List UInt8, Instr.sameNow .string (S x) (S k) = some (x == k) := fun k => by
    show some (ByteArray.mk x.toArray == ByteArray.mk k.toArray) = _
    rw [str_beq]
  unfold verbs lookV
  simp only [Instr.findNow, hs]
  by_cases h1 : x = [112, 117, 116]
  · subst h1; simp
  rw [show (x == [112, 117, 116]) = false by simpa using h1, if_neg h1]
  by_cases h2 : x = [99, 117, 116]
  · subst h2; simp
  rw [show (x == [99, 117, 116]) = false by simpa using h2, if_neg h2]
  by_cases h3 : x = [110, 111, 119]
  · subst h3; simp
  rw [show (x == [110, 111, 119]) = false by simpa using h3, if_neg h3]
  by_cases h4 : x = [102, 105, 110, 100]
  · subst h4; simp
  rw [show (x == [102, 105, 110, 100]) = false by simpa using h4, if_neg h4]
  by_cases h5 : x = [99, 114, 97, 115, 104]
  · subst h5; simp
  rw [show (x == [99, 114, 97, 115, 104]) = false by simpa using h5, if_neg h5]
/-- What a look among the verbs gives. -/
def lookA (x : List UInt8) : Value := match lookV x with
  | some (_, v) => v
  | none => .agg #[.int .i64 0, .int .i64 0, .nilFunc]
theorem look_run (W : World) (r : Nat) (x : List UInt8) (h : W.heap[r]? = some (.map verbs.toArray 5)) :
    (Instr.lookup 89 (.map (some r)) (S x) true).run Tryz.prog W = .ok (.tuple #[lookA x, .bool (lookV x).isSome]) W := by
  have hf := find_verbs x
  unfold lookA
  cases hl : lookV x with
  | none =>
    rw [hl] at hf
    simp [Instr.lookup, run_underlying Tryz.underlying89, MapKept.run_getObj_map h, key_ok, MapKept.run_findKey Tryz.underlying9 hf, Result.andThen]
  | some p =>
    obtain ⟨i, v⟩ := p
    rw [hl] at hf
    simp [Instr.lookup, run_underlying Tryz.underlying89, MapKept.run_getObj_map h, key_ok, MapKept.run_findKey Tryz.underlying9 hf, Result.andThen]
end Go.Proofs.YteoofkinmilckaaGreatDoor
