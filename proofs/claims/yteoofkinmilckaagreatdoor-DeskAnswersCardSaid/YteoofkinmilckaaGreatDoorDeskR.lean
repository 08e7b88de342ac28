/- package desk's Run, at any text. Condition: internal/strconv.uint64pow10, errors.errorType read as the library's text lays them; strconv.ErrSyntax, strconv.ErrRange hold an error each; internal/bytealg.MaxLen holds an integer. -/
import Derived.Test.YteoofkinmilckaaGreatDoorDeskM
import Derived.Test.YteoofkinmilckaaGreatDoorDeskT
namespace Go.Proofs.YteoofkinmilckaaGreatDoor
open Go.RowKit Go.Shelf IntWalk
attribute [local go_sem] Oper.semAt_some
attribute [local go_sem] byte_at str_app

/-- What the library's variables hold. -/
structure Vars (w : World) : Prop where
  ht : TG w
  hm : ML w
  he : EV w
  hg : HG w
theorem Vars.below {w w' : World} (h : Vars w) (hb : Below w.heap.size w w') : Vars w' where
  ht := h.ht.below hb (Nat.le_refl _)
  hm := h.hm.below hb h.hm.lt
  he := h.he.below hb h.he.lt.1 h.he.lt.2
  hg := h.hg.below hb (Nat.le_refl _)
set_option maxRecDepth 100000 in
set_option maxHeartbeats 2000000 in
theorem run_long (T : List UInt8) (w : World) (hl : 3000 < T.length) (h9 : T.length ≤ 9223372036854775807) :
    Calls Tryz.prog 17 #[S T] w fun e w' => e = .returned (S (runD T)) ∧ Below w.heap.size w w' := by
  have h' : (3000 : Int) < (T.length : Int) := by omega
  have HR : Hid (runD T = tooLong) := Lib.hid (if_pos hl)
  clear hl
  go_enter Tryz.func17, Tryz.ntmps17
  go_wp2_with fail
  go_ret
  exact ⟨by rw [HR.out]; rfl, Below.refl _ _⟩

/-- What holds between two lines. -/
def RunI (w : World) (db ob c : Nat) (pre : List (List UInt8)) (W : World) : Prop := ∃ bk, Ses w.heap.size db bk ob c (sesD pre).1 (sesD pre).2 W ∧ Below w.heap.size w W
theorem writeByte_10 (B b : Nat) (G : Option Nat) (l : List UInt8) (w : World) (h : Bld B b G l w) (hlen : l.length ≤ 900000) (hBw : B ≤ w.heap.size) :
    Calls Tryz.prog 34 #[.pointer (some ⟨b, 0, none⟩), .int .u8 10] w fun e w' => e = .returned .nilIface ∧ ∃ G', Bld B b G' (l ++ [10]) w' ∧ Fr b G w w' ∧ (∀ x, G' = some x → G = some x ∨ w.heap.size ≤ x) := writeByte_fr B b G l 10 w h hlen hBw

set_option maxRecDepth 100000 in
set_option maxHeartbeats 2000000 in
theorem run_gen (T : List UInt8) (w : World) (hl : T.length ≤ 3000) (hv : Vars w) :
    Calls Tryz.prog 17 #[S T] w fun e w' => e = .returned (S (runD T)) ∧ Below w.heap.size w w' := by
  have h1 : 1 ≤ 3 := by omega
  have HV := Lib.hid hv
  have HR : Hid (runD T = (sesD (chunks T)).2) := Lib.hid (if_neg (by omega))
  have HCC := Lib.hid (chunks_count T)
  clear hv
  refine (callsIn_wide (n := 3)).1 ?_
  refine callsIn_of_wp_marks Tryz.func17 rfl trivial ?_ rfl
  simp only [Tryz.ntmps17, List.size_toArray, List.length_cons, List.length_nil, Nat.reduceAdd, Nat.reduceSub, Array.replicate_succ, Array.replicate_zero, List.push_toArray, List.append_toArray, List.nil_append, List.cons_append]
  have hl' : ¬ (3000 : Int) < (T.length : Int) := by omega
  gi_wp2_with fail
  refine ⟨trivial, ?_⟩
  refine (callsIn_wide.2 (new_any nF _ (fun _ _ h => by cases h))).mono ?_
  rintro e w1 ⟨rfl, hk1, hb1⟩
  have hz1 := hb1.size
  have HS0 := Lib.hid (Ses.make hk1 hz1 (S T) 9)
  have HB1 := Lib.hid hb1
  clear hk1 hb1
  gi_wp2_with fail
  refine ⟨trivial, ?_⟩
  refine (lines_in _ T _).mono ?_
  rintro e w' ⟨rfl, rfl⟩
  gi_wp2_with fail
  have hbox : (((w1.alloc (dObj w.heap.size)).alloc (.cells #[.pointer none, .slice none 0 0] 56)).alloc (.cells #[S T] 9)).heap[w1.heap.size + 1 + 1]? = some (.cells #[S T] 9) := by
    have := heap_alloc_new ((w1.alloc (dObj w.heap.size)).alloc (.cells #[.pointer none, .slice none 0 0] 56)) (.cells #[S T] 9)
    rwa [World.size_alloc, World.size_alloc] at this
  have hsz : (((w1.alloc (dObj w.heap.size)).alloc (.cells #[.pointer none, .slice none 0 0] 56)).alloc (.cells #[S T] 9)).heap.size = w1.heap.size + 1 + 1 + 1 := by simp
  have HB0 : Hid (Below w.heap.size w (((w1.alloc (dObj w.heap.size)).alloc (.cells #[.pointer none, .slice none 0 0] 56)).alloc (.cells #[S T] 9))) := Lib.hid (((HB1.out.alloc hz1 _).alloc (by simp; omega) _).alloc (by simp; omega) _)
  change Code.wpIn _ _ _ _ _ _ (((w1.alloc (dObj w.heap.size)).alloc (.cells #[.pointer none, .slice none 0 0] 56)).alloc (.cells #[S T] 9))
  generalize hW0 : ((w1.alloc (dObj w.heap.size)).alloc (.cells #[.pointer none, .slice none 0 0] 56)).alloc (.cells #[S T] 9) = W0 at *
  have HZ := Lib.hid hz1
  clear hW0
  have HGL : Hid (4 < w.heap.size ∧ 1 < w.heap.size ∧ 2 < w.heap.size ∧ 3 < w.heap.size ∧ 0 < w.heap.size) := Lib.hid ⟨HV.out.ht.lt, HV.out.hm.lt, HV.out.he.lt.1, HV.out.he.lt.2, HV.out.hg.lt⟩
  refine rangeFunc_cell rfl h1 (gf := 40) (lb := #[.pointer (some ⟨w1.heap.size + 1 + 1, 0, none⟩)]) rfl trivial (enters_of Tryz.func40 (by kernel_rfl) rfl)
    (encs := fun x : List UInt8 => #[S x]) (c := ⟨w1.heap.size + 1 + 1, 0, none⟩) (xs := chunks T) (lines1_in 2 (by omega) (w1.heap.size + 1 + 1) T (by omega) W0 hbox) (by show w1.heap.size + 1 + 1 < _; omega) (fun _ => rfl)
    (RunI w w1.heap.size (w1.heap.size + 1) (w1.heap.size + 1 + 1))
    (fun _ _ _ => False)
    (fun pre A B row hs hg hr => by
      obtain ⟨bk, h1, h2⟩ := hs
      exact ⟨bk, h1.grown hg (fun r e => (hr r e).2), h2.grown hg h2.size (fun k e => Nat.le_trans (by omega) (hr k e).1)⟩)
    (fun pre W hs => by
      obtain ⟨bk, h1, h2⟩ := hs
      exact ⟨fun v => ⟨bk, h1.free v, h2.setCell (p := ⟨w1.heap.size + 1 + 1, 0, none⟩) (by show _ ≤ w1.heap.size + 1 + 1; omega) v⟩, bk, h1.below (Below.drew (Below.refl _ W)), h2.drew⟩)
    (fun cd pre A B row hs hg hr => hs.elim)
    ⟨w.heap.size, HS0.out, HB0.out⟩
    (fun x => { tmps := #[S T, undef, .string ⟨#[]⟩, .pointer (some ⟨w1.heap.size, 0, none⟩), .pointer (some ⟨w1.heap.size + 1, 0, none⟩), S x, S T, .int .i64 (T.length : Int), .bool false, .pointer (some ⟨w.heap.size, 0, none⟩), .agg #[.pointer (some ⟨w.heap.size, 0, none⟩)], S T, .func (.func 40) #[] #[.pointer (some ⟨w1.heap.size + 1 + 1, 0, none⟩)], S x, undef, undef, undef, undef, undef, undef], defers := [] }) ?assign ?body ?done ?stop
  case assign =>
    intro l' x W K hK
    gi_wp2
    exact hK
  case body =>
    rintro l' pre x W ⟨bk, hses, hb⟩ hpre
    have hxl : x.length ≤ 3000 := by
      obtain ⟨t, ht⟩ := hpre
      exact Nat.le_trans (chunks_len T x (by rw [← ht]; simp)) hl
    have hpl : pre.length ≤ 3000 := by
      obtain ⟨t, ht⟩ := hpre
      have h1 := HCC.out
      have h2 : (pre ++ [x] ++ t).length = (chunks T).length := by rw [ht]
      simp at h2; omega
    have hsm := sesD_small pre
    have hal := (ansW_small hsm.1 (splitL (Lib.trimSuffix x [10]))).2
    have HTS := Lib.hid (trimsuf_any x W (by omega))
    have htl := trim_len x
    have hst := sesD_snoc pre x
    unfold stepD at hst
    obtain ⟨F, hk, hF, hwall, ⟨oc, hoc, hFc, hcd⟩, hop⟩ := hses.op
    have hctx : Ctx F w.heap.size w1.heap.size bk (sesD pre).1 W := ⟨hF, hk, HV.out.ht.below hb (Nat.le_refl _), HV.out.hm.below hb HGL.out.2.1, HV.out.he.below hb HGL.out.2.2.1 HGL.out.2.2.2.1, HV.out.hg.below hb (Nat.le_refl _), hsm.1, hb.size, HZ.out, HGL.out.1, HGL.out.2.1, HGL.out.2.2.1, HGL.out.2.2.2.1, HGL.out.2.2.2.2⟩
    have HLN := Lib.hid (lineD_all F w.heap.size w1.heap.size bk (sesD pre).1 (Lib.trimSuffix x [10]) W hctx (by omega))
    have HWALL := Lib.hid hwall; have HOP := Lib.hid hop; have HOC := Lib.hid hoc; have HFC := Lib.hid hFc; have HFD := Lib.hid hF
    have HBW := Lib.hid hb
    have hal' : (answerD (sesD pre).1 (Lib.trimSuffix x [10])).2.length ≤ 40 := hal
    clear hctx hwall hop hoc hFc hF hk hb hses hpre hal
    obtain ⟨R, hR⟩ : ∃ R, answerD (sesD pre).1 (Lib.trimSuffix x [10]) = R := ⟨_, rfl⟩
    rw [hR] at HLN hst hal'
    obtain ⟨tx, htx⟩ : ∃ tx, Lib.trimSuffix x [10] = tx := ⟨_, rfl⟩
    rw [htx] at HTS HLN
    have HST := Lib.hid hst
    clear hst hR htx
    gi_wp2_with fail
    refine ⟨trivial, ?_⟩
    refine ((callsIn_wide.2 HTS.out).inRound l').mono ?_
    rintro e' w' ⟨rfl, rfl⟩
    gi_wp2_with fail
    refine ⟨trivial, ?_⟩
    refine ((callsIn_wide.2 HLN.out).inRound l').mono ?_
    rintro e' W1 ⟨rfl, ⟨bk', hk1⟩, hb1⟩
    have hs1 := HOP.out W1 bk' R.1 hk1
    have hc1 : W1.heap[w1.heap.size + 1 + 1]? = some oc := hk1.frame ((upd_ne hcd).trans HFC.out)
    have hw1 : ∀ (k : Nat) (o : Obj), w'.heap[k]? = some o → o.isCells = false → W1.heap[k]? = some o := fun k o h1 h2 => hk1.frame ((upd_ne (fun e => by
      have := HWALL.out k o h1 h2
      rw [e, HFD.out] at this
      obtain rfl := Option.some.inj this
      cases h2)).trans (HWALL.out k o h1 h2))
    obtain ⟨G, hbd, hwr⟩ := hs1.wr
    have HWS := Lib.hid (writeString_fr w.heap.size (w1.heap.size + 1) G (sesD pre).2 R.2 W1 hbd (by omega) (Nat.le_trans HBW.out.size hb1.size))
    have HWR := Lib.hid hwr; have HC1 := Lib.hid hc1; have HW1 := Lib.hid hw1
    have HBD := Lib.hid hbd
    have HB2 := Lib.hid (HBW.out.trans hb1)
    have hq1 := hb1.size
    clear hs1 hc1 hw1 hwr hk1 hb1 HOP HWALL hbd
    gi_wp2_with fail
    refine ⟨trivial, ?_⟩
    refine ((callsIn_wide.2 HWS.out).inRound l').mono ?_
    rintro e' W2 ⟨rfl, G2, hbd2, hfr2, hg2⟩
    obtain ⟨hs2, hw2, _⟩ := HWR.out W2 G2 _ hbd2 hfr2 hg2
    have HB3 := Lib.hid (HB2.out.trans (hfr2.below HB2.out.size HBD.out.1 (fun x hx => (HBD.out.glt hx).2)))
    obtain ⟨G3, hbd3, hwr3⟩ := hs2.wr
    have HWB := Lib.hid (writeByte_10 w.heap.size (w1.heap.size + 1) G3 ((sesD pre).2 ++ R.2) W2 hbd3 (by rw [List.length_append]; omega) HB3.out.size)
    have HWR3 := Lib.hid hwr3; have HW2 := Lib.hid hw2; have HBD3 := Lib.hid hbd3
    have hq2 := hfr2.size
    clear hs2 hw2 hwr3 hbd3 hbd2 hfr2 hg2 HWR HWS
    gi_wp2_with fail
    refine ⟨trivial, ?_⟩
    refine ((callsIn_wide.2 HWB.out).inRound l').mono ?_
    rintro e' W3 ⟨rfl, G4, hbd4, hfr4, hg4⟩
    obtain ⟨hs4, hw4, _⟩ := HWR3.out W3 G4 _ hbd4 hfr4 hg4
    have HB4 := Lib.hid (HB3.out.trans (hfr4.below HB3.out.size HBD3.out.1 (fun x hx => (HBD3.out.glt hx).2)))
    have HS4 := Lib.hid hs4; have HW4 := Lib.hid hw4
    have hq4 := hfr4.size
    clear hs4 hw4 hbd4 hfr4 hg4 HWR3 HWB
    gi_wp2_with fail
    have hsz4 : w'.heap.size ≤ W3.heap.size := by omega
    exact ⟨⟨hsz4, fun k o' _ hk ho' => HW4.out k o' (HW2.out k o' (HW1.out k o' hk ho') (.inl ho')) (.inl ho')⟩, (HW4.out _ _ (HW2.out _ _ HC1.out (.inr rfl)) (.inr rfl)).trans HOC.out.symm, bk', by rw [HST.out]; exact HS4.out, HB4.out⟩
  case done =>
    rintro D W hD ⟨bk, hses, hb⟩ hK
    obtain ⟨G, hbd, _⟩ := hses.wr
    have HST := Lib.hid (bldString_fr w.heap.size (w1.heap.size + 1) G _ W hbd)
    have HBD := Lib.hid hbd; have HB := Lib.hid hb
    clear hses hbd hb
    gi_wp2_with fail
    refine ⟨trivial, ?_⟩
    refine (callsIn_wide.2 HST.out).mono ?_
    rintro e W3 ⟨rfl, hfr⟩
    have HF := Lib.hid (HB.out.trans (hfr.below HB.out.size HBD.out.1 (fun x hx => (HBD.out.glt hx).2)))
    have hK' : W3.heap[D]? = some (.deferred (some [])) := by
      obtain ⟨_, p, v, hbk, _, hown, hv, _⟩ := HBD.out
      refine (hfr.block D (Array.getElem?_eq_some_iff.1 hK).1 (fun e => ?_) (fun e => ?_)).trans hK
      · rw [e, hbk] at hK; cases hK
      · rcases hown.2 with ⟨rfl, _⟩ | ⟨g, cap, cur, rfl, _, hg, _⟩
        · rw [← e] at hv; cases hv
        · obtain rfl : g = D := by rw [← e] at hv; exact Option.some.inj hv
          rw [hg] at hK; cases hK
    clear hfr
    gi_wp2_with fail
    refine ⟨by simp, .inl ⟨_, _, rfl, run_takeDeferred hK', ?_⟩⟩
    refine ⟨S (runD T), by simp [results, Tryz.f17, go_sem, HR.out], rfl, ?_⟩
    exact HF.out.trans (belowK_b (w := w) (Nat.le_refl _) W3 D _ _ (Nat.le_trans (by omega) hD) hK' rfl rfl)
  case stop =>
    rintro D cd pre W hD hpre hf hK
    exact hf.elim
/-- Run, at any text. -/
theorem run_any (T : List UInt8) (w : World) (h9 : T.length ≤ 9223372036854775807) (hv : Vars w) :
    Calls Tryz.prog 17 #[S T] w fun e w' => e = .returned (S (runD T)) ∧ Below w.heap.size w w' := by
  by_cases hl : 3000 < T.length
  · exact run_long T w hl h9
  · exact run_gen T w (by omega) hv
end Go.Proofs.YteoofkinmilckaaGreatDoor
