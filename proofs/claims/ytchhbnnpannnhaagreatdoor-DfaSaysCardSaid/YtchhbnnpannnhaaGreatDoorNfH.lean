/- nfa.Of: its loop over the pairs. No condition. -/
import Derived.Test.YtchhbnnpannnhaaGreatDoorMg4
import Derived.Test.YtchhbnnpannnhaaGreatDoorMg6
import Derived.Test.YtchhbnnpannnhaaGreatDoorNfI
import Derived.Deep.AppendLies
import Derived.Deep.RegionLaw
import Derived.Deep.CutRange
namespace Go.Proofs.YtchhbnnpannnhaaGreatDoor
open Go.RowKit Go.Maps
set_option linter.unusedVariables false

theorem info_rowsN : (Tryz.prog.info? 44).map (fun i => (i.zero, i.size, i.bytes)) = some (some (.slice none 0 0), 1, 24) := by kernel_rfl
theorem info_intN : (Tryz.prog.info? 3).map (fun i => (i.zero, i.size, i.bytes)) = some (some (.int .i64 0), 1, 8) := by kernel_rfl
theorem sm_fs : ∀ {n : Nat} {t : Pt}, Sm n t → (∀ i, i ∈ fsP t → i < n) ∧ (∀ i, i ∈ lsP t → i < n) ∧ ∀ i j, (i, j) ∈ prP t → i < n ∧ j < n
  | n, .non, h => ⟨fun i hi => (by cases hi), fun i hi => (by cases hi), fun i j hi => (by cases hi)⟩
  | n, .emp, h => ⟨fun i hi => (by cases hi), fun i hi => (by cases hi), fun i j hi => (by cases hi)⟩
  | n, .sgn c k, h => by
    have h : k < n := h
    refine ⟨fun i hi => ?_, fun i hi => ?_, fun i j hi => (by cases hi)⟩
    · rw [List.mem_singleton.1 hi]; exact h
    · rw [List.mem_singleton.1 hi]; exact h
  | n, .alt l r, h => by
    obtain ⟨a1, a2, a3⟩ := sm_fs h.1
    obtain ⟨b1, b2, b3⟩ := sm_fs h.2
    exact ⟨fun i hi => (List.mem_append.1 hi).elim (a1 i) (b1 i), fun i hi => (List.mem_append.1 hi).elim (a2 i) (b2 i), fun i j hi => (List.mem_append.1 hi).elim (a3 i j) (b3 i j)⟩
  | n, .seq l r, h => by
    obtain ⟨a1, a2, a3⟩ := sm_fs h.1
    obtain ⟨b1, b2, b3⟩ := sm_fs h.2
    refine ⟨fun i hi => ?_, fun i hi => ?_, fun i j hi => ?_⟩
    · unfold fsP at hi
      split at hi
      · exact (List.mem_append.1 hi).elim (a1 i) (b1 i)
      · exact a1 i hi
    · unfold lsP at hi
      split at hi
      · exact (List.mem_append.1 hi).elim (b2 i) (a2 i)
      · exact b2 i hi
    · rcases List.mem_append.1 hi with hi | hi
      · exact (List.mem_append.1 hi).elim (a3 i j) (b3 i j)
      · rw [mem_crs] at hi; exact ⟨a2 i hi.1, b1 j hi.2⟩
  | n, .str l, h => by
    obtain ⟨a1, a2, a3⟩ := sm_fs (t := l) h
    refine ⟨a1, a2, fun i j hi => ?_⟩
    rcases List.mem_append.1 hi with hi | hi
    · exact a3 i j hi
    · rw [mem_crs] at hi; exact ⟨a2 i hi.1, a1 j hi.2⟩
theorem grown_set (w : World) (a : Addr) (v : Value) : w.grownBy (w.setCell a v) (some a.block) := ⟨rfl, rfl, rfl, by simp [World.setCell], fun k _ hk => Below.heap_setCell _ _ _ _ (fun e => hk (by rw [e]))⟩
/-- Rows of places, each nil or a block of its own from D on; block g holds them. -/
structure RB (w : World) (D g n : Nat) (KC : List Value) (R : Nat → List Nat) : Prop where
  len : KC.length = n
  low : g < D
  blk : Blk w g 44 KC
  own : ∀ (i : Nat) (u : Value), KC[i]? = some u → w.ownsRow D 3 1 u (R i).length ((R i).map eI)
  sep : ∀ (i j : Nat) (u v : Value), i ≠ j → KC[i]? = some u → KC[j]? = some v → ∀ k, u.ownBlock = some k → v.ownBlock ≠ some k
theorem own_blk {w : World} {D n : Nat} {e : TypeId} {v : Value} {xs : List Value} (h : w.ownsRow D e 1 v n xs) {k : Nat} (hk : v.ownBlock = some k) : ∃ cs, w.heap[k]? = some (.cells cs e (0, 0)) := by
  rcases h.2 with ⟨rfl, _⟩ | ⟨g, cap, cur, rfl, _, hg, _⟩
  · cases hk
  · obtain rfl : g = k := by injection hk
    exact ⟨_, hg⟩
theorem own_keep {w w' : World} {D n : Nat} {e : TypeId} {v : Value} {xs : List Value} {row : Option Nat} (h : w.ownsRow D e 1 v n xs) (hg : w.grownBy w' row) (hn : ∀ k, v.ownBlock = some k → row ≠ some k) : w'.ownsRow D e 1 v n xs := by
  refine h.kept hg ?_
  cases hv : v.ownBlock with
  | none => exact .inl rfl
  | some k => exact .inr fun e => hn k hv e.symm
theorem RB.kept {w w' : World} {D g n : Nat} {KC : List Value} {R : Nat → List Nat} {row : Option Nat} (h : RB w D g n KC R) (hg : w.grownBy w' row) (h1 : row ≠ some g) (h2 : ∀ k cs, row = some k → w.heap[k]? ≠ some (.cells cs 3 (0, 0))) : RB w' D g n KC R := by
  refine ⟨h.len, h.low, (hg.block g h.blk.lt (Ne.symm h1)).trans h.blk, fun i u hu => own_keep (h.own i u hu) hg fun k hk e => ?_, h.sep⟩
  obtain ⟨cs, hc⟩ := own_blk (h.own i u hu) hk
  exact h2 k cs e hc
theorem RB.alloc {w : World} {D g n : Nat} {KC : List Value} {R : Nat → List Nat} (h : RB w D g n KC R) (o : Obj) : RB (w.alloc o) D g n KC R := h.kept (World.grownBy_alloc w o none) (by simp) (fun k cs e => by cases e)
theorem RB.drew {w : World} {D g n : Nat} {KC : List Value} {R : Nat → List Nat} (h : RB w D g n KC R) : RB w.drew D g n KC R := h.kept (grown_drew (World.grownBy.refl w none)) (by simp) (fun k cs e => by cases e)
/-- One place more in a row. -/
theorem RB.more {w w' : World} {D g n i j q cap : Nat} {KC : List Value} {R : Nat → List Nat} {u : Value} (h : RB w D g n KC R) (hu : KC[i]? = some u) (hg : w.grownBy w' u.ownBlock)
    (ho : w'.ownsRow D 3 1 (.slice (some ⟨q, 0, none⟩) ((R i).length + 1) cap) ((R i).length + 1) ((R i).map eI ++ [eI j])) (hq : u.ownBlock = some q ∨ q = w.heap.size) :
    RB (w'.setCell ⟨g, i, none⟩ (.slice (some ⟨q, 0, none⟩) ((R i).length + 1) cap)) D g n (KC.set i (.slice (some ⟨q, 0, none⟩) ((R i).length + 1) cap)) (fun z => if z = i then R i ++ [j] else R z) := by
  have hi : i < KC.length := (List.getElem?_eq_some_iff.1 hu).1
  have hgu : u.ownBlock ≠ some g := fun e => by have := ((h.own i u hu).lt g e).1; have := h.low; omega
  have hb : Blk w' g 44 KC := (hg.block g h.blk.lt (Ne.symm hgu)).trans h.blk
  have hset := hb.set_ i (.slice (some ⟨q, 0, none⟩) ((R i).length + 1) cap)
  have hs : ∀ k, k ≠ g → (w'.setCell ⟨g, i, none⟩ (.slice (some ⟨q, 0, none⟩) ((R i).length + 1) cap)).heap[k]? = w'.heap[k]? := fun k hk => Below.heap_setCell _ _ _ _ hk
  have hown : ∀ (z : Nat) (v : Value) (xs : List Value) (m : Nat), w'.ownsRow D 3 1 v m xs → (w'.setCell ⟨g, i, none⟩ (.slice (some ⟨q, 0, none⟩) ((R i).length + 1) cap)).ownsRow D 3 1 v m xs := fun z v xs m hv => ownsRow_setCell_below hv h.low _
  have hother : ∀ z v, z ≠ i → KC[z]? = some v → v.ownBlock ≠ some q := by
    intro z v hz hv e
    rcases hq with hq | hq
    · exact h.sep i z u v (Ne.symm hz) hu hv q hq e
    · have := ((h.own z v hv).lt q e).2; omega
  refine ⟨by rw [List.length_set]; exact h.len, h.low, hset, fun z v hv => ?_, fun a b x y hab hx hy k hk => ?_⟩
  · by_cases e : z = i
    · subst e
      rw [List.getElem?_set_self hi] at hv
      obtain rfl := Option.some.inj hv
      rw [if_pos rfl, List.length_append, List.map_append]
      exact hown 0 _ _ _ ho
    · rw [List.getElem?_set_ne (Ne.symm e)] at hv
      rw [if_neg e]
      exact hown 0 _ _ _ (own_keep (h.own z v hv) hg fun k hk ek => h.sep i z u v (Ne.symm e) hu hv k ek hk)
  · by_cases ea : a = i
    · subst ea
      rw [List.getElem?_set_self hi] at hx
      obtain rfl := Option.some.inj hx
      rw [List.getElem?_set_ne hab] at hy
      obtain rfl : q = k := by injection hk
      exact hother b y (Ne.symm hab) hy
    · rw [List.getElem?_set_ne (Ne.symm ea)] at hx
      by_cases eb : b = i
      · subst eb
        rw [List.getElem?_set_self hi] at hy
        obtain rfl := Option.some.inj hy
        intro e
        obtain rfl : q = k := by injection e
        exact hother a x ea hx hk
      · rw [List.getElem?_set_ne (Ne.symm eb)] at hy
        exact h.sep a b x y hab hx hy k hk
theorem RB.made (w : World) (n : Nat) : RB (w.alloc (.cells (List.replicate n (.slice none 0 0)).toArray 44)) (w.heap.size + 1) w.heap.size n (List.replicate n (.slice none 0 0)) (fun _ => []) := by
  refine ⟨by simp, by omega, Blk.new _ _ _, fun i u hu => ?_, fun i j u v _ hu hv k hk => ?_⟩
  · obtain ⟨hi, rfl⟩ := List.getElem?_eq_some_iff.1 hu
    rw [List.getElem_replicate]
    exact World.ownsRow_nil _ _ _ _
  · obtain ⟨hi, rfl⟩ := List.getElem?_eq_some_iff.1 hu
    rw [List.getElem_replicate] at hk
    cases hk
/-- A row put in order. -/
theorem RB.sorted {w w' : World} {D g n k : Nat} {KC : List Value} {R : Nat → List Nat} {u : Value} {L : List Nat} (h : RB w D g n KC R) (hu : KC[k]? = some u) (hg : w.grownBy w' u.ownBlock) (ho : w'.ownsRow D 3 1 u (R k).length (L.map eI)) (hl : L.length = (R k).length) :
    RB w' D g n KC (fun z => if z = k then L else R z) := by
  have hgu : u.ownBlock ≠ some g := fun e => by have := ((h.own k u hu).lt g e).1; have := h.low; omega
  refine ⟨h.len, h.low, (hg.block g h.blk.lt (Ne.symm hgu)).trans h.blk, fun z v hv => ?_, h.sep⟩
  by_cases e : z = k
  · subst e
    rw [hu] at hv
    obtain rfl := Option.some.inj hv
    rw [if_pos rfl, hl]
    exact ho
  · rw [if_neg e]
    exact own_keep (h.own z v hv) hg fun q hq eq => h.sep k z u v (Ne.symm e) hu hv q eq hq
theorem RB.congr {w : World} {D g n : Nat} {KC : List Value} {R R' : Nat → List Nat} (h : RB w D g n KC R) (he : ∀ i, i < n → R i = R' i) : RB w D g n KC R' :=
  ⟨h.len, h.low, h.blk, fun i u hu => by
    have hi : i < n := by rw [← h.len]; exact (List.getElem?_eq_some_iff.1 hu).1
    rw [← he i hi]; exact h.own i u hu, h.sep⟩
theorem res_4 {fn : Func} {t u v x : Tmp} (h : fn.results = #[.tmp t, .tmp u, .tmp v, .tmp x]) (tmps : Array Value) (P : Program) (w : World) :
    (results fn tmps).run P w = .ok (.tuple #[tmps.getD t undef, tmps.getD u undef, tmps.getD v undef, tmps.getD x undef]) w := by
  simp [results, h]
/-- The places that may follow a place, rising. -/
def nxN (n : Nat) (t : Pt) (i : Nat) : List Nat := (List.range n).filter fun j => decide ((i, j) ∈ prP t)
/-- What nfa.Of hands back. -/
structure OfOut (w w' : World) (t : Pt) (n : Nat) (v1 v2 : Value) (g : Nat) (KC : List Value) : Prop where
  first : w'.ownsRow w.heap.size 3 1 v1 (srt n (fsP t)).length ((srt n (fsP t)).map eI)
  last : w'.ownsRow w.heap.size 3 1 v2 (srt n (lsP t)).length ((srt n (lsP t)).map eI)
  next : RB w' (g + 1) g n KC (nxN n t)
  old : w.heap.size ≤ g
theorem RSet.iter {α : Type} {P : Program} {k : TypeId} {enc : α → Value} {ok : α → Prop} {w : World} {b r : Nat} {L : List α} {left : α → Prop} {cnt : Nat} (h : RSet P k enc ok w b r L left cnt) : ∀ cs e f, w.heap[r]? ≠ some (.cells cs e f) := by
  obtain ⟨hL, D, lf, ⟨es, clock, since, seen, c0, h1, h2, h3, h4, h5, _⟩, _⟩ := h
  intro cs e f he
  rw [h5] at he
  cases he
set_option maxRecDepth 100000 in
set_option maxHeartbeats 4000000 in
theorem nfaOf_any (s : List UInt8) (w : World) (h9 : s.length ≤ 9223372036854775807) :
    Calls Tryz.prog 28 #[S s] w fun e w' => ((parsE s ≠ 0 ∧ e = .returned (.tuple #[.slice none 0 0, .slice none 0 0, .slice none 0 0, errV (parsE s)])) ∨
      ∃ (t : Pt) (v1 v2 : Value) (g : Nat) (KC : List Value), parsE s = 0 ∧ s.length ≤ 12 ∧ par s = some t ∧ e = .returned (.tuple #[v1, v2, .slice (some ⟨g, 0, none⟩) (leaves t).length (leaves t).length, .nilIface]) ∧ OfOut w w' t (leaves t).length v1 v2 g KC) ∧ Below w.heap.size w w' := by
  have hmm := @run_makeMap Tryz.prog
  obtain ⟨i1, hi1, hy0, hy1, hy2⟩ := info_parts info_rowsN
  obtain ⟨i0, hi0, hz0, hz1, hz2⟩ := info_parts info_intN
  have HP := Lib.hid (parse_any s w h9)
  go_enter Tryz.func28, Tryz.ntmps28
  go_wp2_with fail
  refine HP.out.mono ?_
  rintro e w1 ⟨⟨hne, rfl⟩ | ⟨t, g, h0, h12, ht, rfl, hnd⟩, hb⟩
  · have HB := Lib.hid hb
    have HE := Lib.hid (err_ne hne)
    have HN := Lib.hid hne
    clear hb HP hne
    rw [HE.out]
    go_wp2_with fail
    refine bodyPost_ret (res_4 rfl _ _ _) rfl ?_
    first | exact ⟨.inl ⟨HN.out, rfl⟩, HB.out⟩ | exact ⟨.inl ⟨HN.out, by rw [HE.out]; rfl⟩, HB.out⟩
  have H0 : Hid (parsE s = 0 ∧ s.length ≤ 12 ∧ par s = some t) := Lib.hid ⟨h0, h12, ht⟩
  have HL : Hid ((leaves t).length ≤ 12 ∧ Sm 64 t ∧ Sm (leaves t).length t) := Lib.hid (by
    obtain ⟨q1, q2⟩ := par_leaves ht
    have q3 : (lets s).length ≤ s.length := List.length_filter_le _ _
    exact ⟨by rw [q1]; omega, Sm.of_num q2 (by omega), Sm.of_num q2 (by rw [q1]; exact Nat.le_refl _)⟩)
  have HB := Lib.hid hb
  have HN := Lib.hid hnd
  have hpm := MSet.made Tryz.prog 92 eJ okJ w1
  have HPM := Lib.hid hpm
  have HO := Lib.hid (of_any t g w1.heap.size [] (w1.alloc (.map #[] 0)) (HN.out.below ((Below.refl _ w1).alloc (Nat.le_refl _) _)) hpm HL.out.2.1)
  clear hb hnd hpm HP
  go_wp2_with fail
  refine HO.out.mono ?_
  rintro e w2 ⟨a, b, rfl, h1, h2, h3, h4, h5, h6⟩
  have HX : Hid (SI w2 a (fsP t) ∧ SI w2 b (lsP t) ∧ SJ w2 w1.heap.size (prP t) ∧ Below w1.heap.size w1 w2 ∧ Nd w2 t g) := Lib.hid ⟨h3, h4, by simpa using h5, ((Below.refl _ w1).alloc (Nat.le_refl _) _).grown h6 (by simp) (fun k hk => by cases hk; exact Nat.le_refl _), (HN.out.below ((Below.refl _ w1).alloc (Nat.le_refl _) (.map #[] 0))).grown h6 (heap_alloc_new w1 _ ▸ fun o t f e => by cases e)⟩
  have HLV := Lib.hid (leaves_any t g w2 HX.out.2.2.2.2 (by have := HL.out.1; omega))
  clear h1 h2 h3 h4 h5 h6 HO
  go_wp2_with fail
  refine HLV.out.mono ?_
  rintro e w3 ⟨⟨v, rfl, ho⟩, hb3⟩
  obtain ⟨A1, c1, rfl, _⟩ := own_shape ho
  have HY : Hid (SI w3 a (fsP t) ∧ SI w3 b (lsP t) ∧ SJ w3 w1.heap.size (prP t) ∧ Below w1.heap.size w1 w3) := Lib.hid ⟨HX.out.1.below hb3 HX.out.1.lt, HX.out.2.1.below hb3 HX.out.2.1.lt, HX.out.2.2.1.below hb3 HX.out.2.2.1.lt, HX.out.2.2.2.1.trans (hb3.mono HX.out.2.2.2.1.size)⟩
  have hn12 := HL.out.1
  generalize hn : (leaves t).length = n at *
  have HM := mk_ints (P := Tryz.prog) Tryz.underlying22 hi1 hy0 hy1 rfl (by omega) n (by omega) w3
  clear hb3 ho HX HLV
  go_upto_region 7 with fail
  have hRB := RB.made w3 n
  have hsz3 : (w3.alloc (.cells (List.replicate n (.slice none 0 0)).toArray 44)).heap.size = w3.heap.size + 1 := by simp
  have hgW := World.grownBy_alloc w3 (.cells (List.replicate n (.slice none 0 0)).toArray 44) none
  rw [List.toArray_replicate] at hRB hsz3 hgW
  generalize w3.alloc (.cells (Array.replicate n (.slice none 0 0)) 44) = W3 at *
  have HZ : Hid (SI W3 a (fsP t) ∧ SI W3 b (lsP t) ∧ SJ W3 w1.heap.size (prP t) ∧ Below w1.heap.size w1 W3) := Lib.hid ⟨HY.out.1.kept hgW (by simp), HY.out.2.1.kept hgW (by simp), HY.out.2.2.1.kept hgW (by simp), HY.out.2.2.2.grown hgW HY.out.2.2.2.size (fun k hk => by cases hk)⟩
  have HRB := Lib.hid hRB
  have hpm3 := HY.out.2.2.1.lt
  have HAB := Lib.hid (And.intro HY.out.1.lt HY.out.2.1.lt)
  have HS3 := Lib.hid hsz3
  clear HY hRB hgW HM hsz3
  go_wp2_with (first
    | (at_range; refine wpList_set_range rfl _ 88 rfl _ keyJ Tryz.underlying88 w1.heap.size (prP t) rfl HZ.out.2.2.1 ?_; intro w4 cnt4 hrg4 hg4 hs4)
    | go_in)
  go_frame
  go_loopw [34] (fun _ wr => ∃ (left : Nat × Nat → Prop) (cnt : Nat) (KC : List Value) (R : Nat → List Nat), RSet Tryz.prog 92 eJ okJ wr w1.heap.size W3.heap.size (prP t) left cnt ∧ Hid (RB wr (w3.heap.size + 1) w3.heap.size n KC R) ∧
      Hid (∀ i, (R i).Nodup ∧ ∀ j, j ∈ R i ↔ (i, j) ∈ prP t ∧ ¬ left (i, j)) ∧ Hid (Below w3.heap.size W3 wr))
    (fun _ wr => wr.rangeLeft w1.heap.size W3.heap.size)
  case atStart =>
    exact ⟨_, _, _, _, hrg4, Lib.hid (HRB.out.kept hg4 (by simp) (fun k cs e => by cases e)), Lib.hid (fun i => ⟨List.nodup_nil, fun j => ⟨fun h => (by cases h), fun h => absurd h.1 h.2⟩⟩), Lib.hid ((Below.refl _ W3).grown hg4 (by have := HS3.out; omega) (fun k hk => by cases hk))⟩
  case round =>
    obtain ⟨left, cnt, KC, R, hrg, HR, HI, HBW⟩ := hrel
    go_wp2_with (first
      | (at_next; refine wpList_set_next rfl _ rfl keyJ w1.heap.size W3.heap.size (prP t) left cnt rfl hrg ?_ ?_)
      | go_in)
    · intro hdone
      have HIp : Hid (∀ i, (R i).Nodup ∧ (∀ j ∈ R i, j < n) ∧ srt n (R i) = nxN n t i) := Lib.hid (fun i => by
        have hm : ∀ j, j ∈ R i ↔ (i, j) ∈ prP t := fun j => ((HI.out i).2 j).trans ⟨fun h => h.1, fun h => ⟨h, hdone i j h⟩⟩
        refine ⟨(HI.out i).1, fun j hj => ((sm_fs HL.out.2.2).2.2 i j ((hm j).1 hj)).2, ?_⟩
        unfold srt nxN
        exact List.filter_congr fun j _ => by simp only [hm j])
      have HR0 : Hid (RB wr (w3.heap.size + 1) w3.heap.size n KC (fun i => if i < 0 then srt n (R i) else R i)) := Lib.hid (HR.out.congr fun i _ => by rw [if_neg (Nat.not_lt_zero _)])
      clear hrg HR HI hdone hrg4 hg4
      go_upto_region 12 with fail
      go_loopw [53] (fun v wr2 => ∃ k : Nat, v = .int .i64 (k : Int) ∧ k ≤ n ∧ Hid (RB wr2 (w3.heap.size + 1) w3.heap.size n KC (fun i => if i < k then srt n (R i) else R i)) ∧ Hid (Below w3.heap.size W3 wr2)) (fun v _ => n - (intOf v).toNat)
      case atStart => exact ⟨0, rfl, Nat.zero_le _, HR0, HBW⟩
      case round =>
        obtain ⟨k, rfl, hkn, HK, HKB⟩ := hrel
        by_cases hk : k < n
        · obtain ⟨u, hu⟩ : ∃ u, KC[k]? = some u := ⟨_, List.getElem?_eq_getElem (by rw [HK.out.len]; exact hk)⟩
          have HU := Lib.hid hu
          have hrc : wr.cell? ⟨w3.heap.size, k, none⟩ = some u := by rw [HK.out.blk.cell]; exact hu
          have HSR := Lib.hid (sortRow_any n (w3.heap.size + 1) u (R k) wr (by have h := HK.out.own k u hu; rwa [if_neg (Nat.lt_irrefl _)] at h) (HIp.out k).1 (HIp.out k).2.1 (by omega))
          have z1 : (k : Int) < (n : Int) := by omega
          clear hu
          go_wp2_with fail
          refine HSR.out.mono ?_
          rintro e w6 ⟨rfl, h61, h62⟩
          have HQ : Hid (RB w6 (w3.heap.size + 1) w3.heap.size n KC (fun i => if i < k + 1 then srt n (R i) else R i)) := Lib.hid (by
            have hl : (srt n (R k)).length = (R k).length := (srt_perm (HIp.out k).1 (HIp.out k).2.1).length_eq.symm
            have h := HK.out.sorted HU.out h62 (L := srt n (R k)) (by rw [if_neg (Nat.lt_irrefl _)]; exact h61) (by rw [if_neg (Nat.lt_irrefl _)]; exact hl)
            refine h.congr fun i _ => ?_
            by_cases e : i = k
            · subst e; rw [if_pos rfl, if_pos (Nat.lt_succ_self _)]
            · rw [if_neg e]
              by_cases e2 : i < k
              · rw [if_pos e2, if_pos (by omega)]
              · rw [if_neg e2, if_neg (by omega)])
          have HQB : Hid (Below w3.heap.size W3 w6) := Lib.hid (HKB.out.grown h62 (by have := HKB.out.size; have := HS3.out; omega) (fun q hq => by have h := HK.out.own k u HU.out; have := (h.lt q hq).1; omega))
          clear h61 h62
          go_wp2_with fail
          go_roundw
          case rel => exact ⟨k + 1, by go_num, by omega, HQ, HQB⟩
          case measure => simp [intOf]; omega
        · obtain rfl : k = n := by omega
          have HZ2 : Hid (SI wr a (fsP t) ∧ SI wr b (lsP t)) := Lib.hid ⟨HZ.out.1.below HKB.out HAB.out.1, HZ.out.2.1.below HKB.out HAB.out.2⟩
          have HK1 := Lib.hid (keysIn_any a wr)
          have HSM := Lib.hid (sm_fs HL.out.2.2)
          go_wp2_with fail
          refine HK1.out.mono ?_
          rintro e w7 ⟨rfl, hw7⟩
          have hb7 : Below wr.heap.size wr w7 := by rw [hw7]; exact (Below.refl _ wr).alloc (Nat.le_refl _) _
          have hs7 : w7.heap.size = wr.heap.size + 1 := by rw [hw7]; simp
          have hc7 : w7.cell? ⟨wr.heap.size, 0, none⟩ = some (.map (some a)) := by rw [hw7, cell_of_row _ wr.heap.size 0 _ _ (0, 0) (heap_alloc_new wr _)]; rfl
          have HS1 := Lib.hid (sorted_any k a wr.heap.size (fsP t) w7 (HZ2.out.1.below hb7 HZ2.out.1.lt) HSM.out.1 (by omega) (by omega) hc7)
          have HB7 := Lib.hid hb7
          have HSZ7 := Lib.hid hs7
          clear hw7 hb7 hs7 hc7
          go_wp2_with fail
          refine HS1.out.mono ?_
          rintro e w8 ⟨v1, rfl, ho1, hb8⟩
          have HO1 := Lib.hid ho1
          have HB8 : Hid (Below wr.heap.size wr w8) := Lib.hid (HB7.out.trans (hb8.mono HB7.out.size))
          have HK2 := Lib.hid (keysIn_any b w8)
          clear ho1 hb8
          go_wp2_with fail
          refine HK2.out.mono ?_
          rintro e w9 ⟨rfl, hw9⟩
          have hb9 : Below w8.heap.size w8 w9 := by rw [hw9]; exact (Below.refl _ w8).alloc (Nat.le_refl _) _
          have hs9 : w9.heap.size = w8.heap.size + 1 := by rw [hw9]; simp
          have hc9 : w9.cell? ⟨w8.heap.size, 0, none⟩ = some (.map (some b)) := by rw [hw9, cell_of_row _ w8.heap.size 0 _ _ (0, 0) (heap_alloc_new w8 _)]; rfl
          have HS2 := Lib.hid (sorted_any k b w8.heap.size (lsP t) w9 ((HZ2.out.2.below HB8.out HZ2.out.2.lt).below hb9 (Nat.lt_of_lt_of_le HZ2.out.2.lt HB8.out.size)) HSM.out.2.1 (by omega) (by omega) hc9)
          have HB9 := Lib.hid hb9
          clear hw9 hb9 hs9 hc9
          go_wp2_with fail
          refine HS2.out.mono ?_
          rintro e w10 ⟨v2, rfl, ho2, hb10⟩
          have HO2 := Lib.hid ho2
          have HB10 := Lib.hid (HB9.out.trans (hb10.mono HB9.out.size))
          clear ho2 hb10
          go_wp2_with fail
          refine bodyPost_ret (res_4 rfl _ _ _) rfl ?_
          have hall : Below wr.heap.size wr w10 := HB8.out.trans (HB10.out.mono HB8.out.size)
          have hw1s := HB.out.size
          have hz := HKB.out.size
          have hs3 := HS3.out
          have hwr : Below w.heap.size w wr := HB.out.trans ((HZ.out.2.2.2.mono hw1s).trans (HKB.out.mono (by omega)))
          have HOUT : OfOut w w10 t k v1 v2 w3.heap.size KC := by
            refine ⟨?_, ?_, ?_, by omega⟩
            · have h7 := HB7.out.size
              exact ownsRow_base_a (own_keep HO1.out (grown_of_below HB10.out (Nat.le_refl _) none) (fun _ _ e => by cases e)) (Nat.le_trans hwr.size h7)
            · exact ownsRow_base_a HO2.out (Nat.le_trans hwr.size (Nat.le_trans HB8.out.size HB9.out.size))
            · refine (HK.out.kept (grown_of_below hall (Nat.le_refl _) none) (by simp) (fun q cs e => by cases e)).congr fun i hi => ?_
              rw [if_pos hi]
              exact (HIp.out i).2.2
          exact ⟨.inr ⟨t, v1, v2, w3.heap.size, KC, H0.out.1, H0.out.2.1, H0.out.2.2, by rw [hn]; rfl, by rw [hn]; exact HOUT⟩, hwr.trans (hall.mono hwr.size)⟩
    · intro x y w5 cnt5 hx hl hrg5 hlt hg5 hs5 hen
      clear hs5
      go_upto_region 10 with fail
      obtain ⟨hxn, hyn⟩ := (sm_fs HL.out.2.2).2.2 x y hx
      have hsz5 : (w5.alloc (.cells #[.int .i64 (x : Int), .int .i64 (y : Int)] 92)).heap.size = w5.heap.size + 1 := by simp
      have HR5 : Hid (RB w5 (w3.heap.size + 1) w3.heap.size n KC R) := Lib.hid (HR.out.kept hg5 (fun e => by have := Option.some.inj e; have := HS3.out; omega) (fun k cs e => by have e := Option.some.inj e; subst e; exact hrg.iter cs _ _))
      have HR6 := Lib.hid (HR5.out.alloc (.cells #[.int .i64 (x : Int), .int .i64 (y : Int)] 92))
      have hp0 : (w5.alloc (.cells #[.int .i64 (x : Int), .int .i64 (y : Int)] 92)).cell? ⟨w5.heap.size, 0, none⟩ = some (.int .i64 (x : Int)) := by rw [cell_of_row _ w5.heap.size 0 _ _ (0, 0) (heap_alloc_new w5 _)]; rfl
      have hp1 : (w5.alloc (.cells #[.int .i64 (x : Int), .int .i64 (y : Int)] 92)).cell? ⟨w5.heap.size, 1, none⟩ = some (.int .i64 (y : Int)) := by rw [cell_of_row _ w5.heap.size 1 _ _ (0, 0) (heap_alloc_new w5 _)]; rfl
      have hgr6 := World.grownBy_alloc w5 (.cells #[.int .i64 (x : Int), .int .i64 (y : Int)] 92) none
      have hrg6 := hrg5.kept hgr6 (by simp) (by simp)
      have HBW6 : Hid (Below w3.heap.size W3 (w5.alloc (.cells #[.int .i64 (x : Int), .int .i64 (y : Int)] 92))) := Lib.hid ((HBW.out.grown hg5 (by have := HBW.out.size; have := HS3.out; omega) (fun k hk => by cases hk; have := HS3.out; omega)).grown hgr6 (by have := HBW.out.size; have := HS3.out; have := hg5.size; omega) (fun k hk => by cases hk))
      obtain ⟨u, hu⟩ : ∃ u, KC[x]? = some u := ⟨_, List.getElem?_eq_getElem (by rw [HR5.out.len]; exact hxn)⟩
      have HU := Lib.hid hu
      have HRG := Lib.hid hrg6
      have HUP : Hid (u.ownBlock ≠ some w5.heap.size) := Lib.hid (fun e => by have := ((HR5.out.own x u hu).lt _ e).2; omega)
      have hplt : w5.heap.size < (w5.alloc (.cells #[.int .i64 (x : Int), .int .i64 (y : Int)] 92)).heap.size := by rw [hsz5]; exact Nat.lt_succ_self _
      generalize w5.alloc (.cells #[.int .i64 (x : Int), .int .i64 (y : Int)] 92) = W at *
      generalize w5.heap.size = pb at *
      have hrc : W.cell? ⟨w3.heap.size, x, none⟩ = some u := by rw [HR6.out.blk.cell]; exact hu
      have hgl : w3.heap.size < W.heap.size := HR6.out.blk.lt
      have q0 : ∀ o, (W.alloc o).cell? ⟨pb, 0, none⟩ = some (.int .i64 (x : Int)) := fun o => (World.cell?_alloc_lt W o _ (by show pb < _; omega)).trans hp0
      have q1 : ∀ o, (W.alloc o).cell? ⟨pb, 1, none⟩ = some (.int .i64 (y : Int)) := fun o => (World.cell?_alloc_lt W o _ (by show pb < _; omega)).trans hp1
      have q2 : ∀ o, (W.alloc o).cell? ⟨w3.heap.size, x, none⟩ = some u := fun o => (World.cell?_alloc_lt W o _ hgl).trans hrc
      have z0 : (0 : Int) ≤ (x : Int) := by omega
      have z1 : (x : Int) < (n : Int) := by omega
      have z2 : ((x : Int)).toNat = x := by omega
      have HLE := Lib.hid hrg.left_eq
      clear hu hrg hrg5 hrg6 hgr6 hg5 hen
      have hlen : (R x).length ≤ n := by
        have h := len_of_sub (R x) (List.range n) (HI.out x).1 (fun j hj => List.mem_range.2 ((sm_fs HL.out.2.2).2.2 x j (((HI.out x).2 j).1 hj).1).2)
        rwa [List.length_range] at h
      have hD : w3.heap.size + 1 ≤ W.heap.size := hgl
      have HOW : Hid (((W.alloc (.cells #[.int .i64 (y : Int)] 3)).drew).ownsRow (w3.heap.size + 1) 3 1 u (R x).length ((R x).map eI)) := Lib.hid ((HR6.out.alloc _).drew.own x u HU.out)
      have HNW : Hid (∀ j v, [eI y][j]? = some v → ((W.alloc (.cells #[.int .i64 (y : Int)] 3)).drew).cell? ((⟨W.heap.size, 0, none⟩ : Addr).add j) = some v) := Lib.hid (World.news_of_block (heap_alloc_new W _))
      have HEND : Hid (∀ (q cap : Nat) (w6 : World), w6.ownsRow (w3.heap.size + 1) 3 1 (.slice (some ⟨q, 0, none⟩) ((R x).length + 1) cap) ((R x).length + 1) ((R x).map eI ++ [eI y]) →
          ((W.alloc (.cells #[.int .i64 (y : Int)] 3)).drew).grownBy w6 u.ownBlock → (u.ownBlock = some q ∨ q = W.heap.size + 1) →
          (∃ (left : Nat × Nat → Prop) (cnt : Nat) (KC : List Value) (R' : Nat → List Nat), RSet Tryz.prog 92 eJ okJ (w6.setCell ⟨w3.heap.size, x, none⟩ (.slice (some ⟨q, 0, none⟩) ((R x).length + 1) cap)) w1.heap.size W3.heap.size (prP t) left cnt ∧
            Hid (RB (w6.setCell ⟨w3.heap.size, x, none⟩ (.slice (some ⟨q, 0, none⟩) ((R x).length + 1) cap)) (w3.heap.size + 1) w3.heap.size n KC R') ∧ Hid (∀ i, (R' i).Nodup ∧ ∀ j, j ∈ R' i ↔ (i, j) ∈ prP t ∧ ¬ left (i, j)) ∧
            Hid (Below w3.heap.size W3 (w6.setCell ⟨w3.heap.size, x, none⟩ (.slice (some ⟨q, 0, none⟩) ((R x).length + 1) cap)))) ∧
          (w6.setCell ⟨w3.heap.size, x, none⟩ (.slice (some ⟨q, 0, none⟩) ((R x).length + 1) cap)).rangeLeft w1.heap.size W3.heap.size < wr.rangeLeft w1.heap.size W3.heap.size) := Lib.hid (by
        intro q cap w6 hown6 hgrow6 hat6
        have g1 : W.grownBy ((W.alloc (.cells #[.int .i64 (y : Int)] 3)).drew) none := grown_drew (World.grownBy_alloc W _ none)
        have r1 := HRG.out.kept g1 (by simp) (by simp)
        have hu1 : u.ownBlock ≠ some w1.heap.size := fun e => by have := (HOW.out.lt _ e).1; omega
        have hu2 : u.ownBlock ≠ some W3.heap.size := fun e => by
          obtain ⟨cs, hc⟩ := own_blk HOW.out e
          exact r1.iter _ _ _ hc
        have r2 := r1.kept hgrow6 (Ne.symm hu1) (Ne.symm hu2)
        have g3 := grown_set w6 ⟨w3.heap.size, x, none⟩ (.slice (some ⟨q, 0, none⟩) ((R x).length + 1) cap)
        have hs3 := HS3.out
        have r3 := r2.kept g3 (fun e => by have := Option.some.inj e; simp at this; omega) (fun e => by have := Option.some.inj e; simp at this; omega)
        refine ⟨⟨_, cnt5, _, _, r3, Lib.hid (((HR6.out.alloc _).drew).more HU.out hgrow6 hown6 (by rcases hat6 with h | h; exact .inl h; exact .inr (by rw [h]; simp))), Lib.hid (fun i => ?_), Lib.hid ?_⟩, ?_⟩
        · have hnot : y ∉ R x := fun h => (((HI.out x).2 y).1 h).2 hl
          by_cases e : i = x
          · subst e
            rw [if_pos rfl]
            refine ⟨List.nodup_append.2 ⟨(HI.out i).1, by simp, fun a ha b hb => by rw [List.mem_singleton] at hb; subst hb; exact fun e => hnot (e ▸ ha)⟩, fun j => ?_⟩
            rw [List.mem_append, List.mem_singleton, (HI.out i).2]
            constructor
            · rintro (⟨h1, h2⟩ | rfl)
              · exact ⟨h1, fun h => h2 h.1⟩
              · exact ⟨hx, fun h => h.2 rfl⟩
            · rintro ⟨h1, h2⟩
              by_cases ej : j = y
              · exact .inr ej
              · exact .inl ⟨h1, fun h => h2 ⟨h, fun e => ej (congrArg Prod.snd e)⟩⟩
          · rw [if_neg e]
            refine ⟨(HI.out i).1, fun j => ?_⟩
            rw [(HI.out i).2]
            exact ⟨fun h => ⟨h.1, fun h' => h.2 h'.1⟩, fun h => ⟨h.1, fun h' => h.2 ⟨h', fun e' => e (congrArg Prod.fst e')⟩⟩⟩
        · exact (((HBW6.out.grown g1 (by omega) (fun k hk => by cases hk)).grown hgrow6 (by have := g1.size; omega) (fun k hk => by have := (HOW.out.lt k hk).1; omega)).setCell (Nat.le_refl _) _)
        · rw [r3.left_eq, HLE.out]; exact hlt)
      go_region_law (refine step_append_lies _ rfl (.tmp 45) (.tmp 48) 44 rfl (w3.heap.size + 1) 3 i0 (.int .i64 0) 1 8 Tryz.underlying44 hi0 hz0 hz1 hz2 rfl (by decide) u (R x).length ((R x).map eI) (by simp [Act.eval]) HOW.out ⟨W.heap.size, 0, none⟩ 1 1 [eI y] (by simp [Act.eval]) rfl HNW.out (by simp [Value.oneCell']) (by decide) (by unfold maxLen; omega) (by omega) (by simp; omega) (W.heap.size + 1) (by simp) ?_; intro q cap w6 hown6 hgrow6 hat6 hlt6; have hc6 : w6.cell? ⟨w3.heap.size, x, none⟩ = some u := (hgrow6.cell_far ⟨w3.heap.size, x, none⟩ (by simp; omega) (fun e => Nat.not_succ_le_self _ (HOW.out.lt _ e.symm).1)).trans (q2 _); have h60 : w6.cell? ⟨pb, 0, none⟩ = some (.int .i64 (x : Int)) := (hgrow6.cell_far ⟨pb, 0, none⟩ (by simp; omega) (fun e => HUP.out e.symm)).trans (q0 _); have h61 : w6.cell? ⟨pb, 1, none⟩ = some (.int .i64 (y : Int)) := (hgrow6.cell_far ⟨pb, 1, none⟩ (by simp; omega) (fun e => HUP.out e.symm)).trans (q1 _); have hf6 : w6.frozen? ⟨w3.heap.size, x, none⟩ = false := (hgrow6.frozen_far ⟨w3.heap.size, x, none⟩ (by simp; omega) (fun e => Nat.not_succ_le_self _ (HOW.out.lt _ e.symm).1)).trans ((HR6.out.alloc _).blk.frozen x))
      all_goals
        have HE := Lib.hid (HEND.out q cap w6 hown6 hgrow6 hat6)
        clear hown6 hgrow6 hat6 hlt6 hc6 h60 h61 hf6 q0 q1 q2 hp0 hp1 hrc HOW HNW HEND z0 z1 z2
        go_wp2_with fail
        go_roundw
        case rel => exact HE.out.1
        case measure => exact HE.out.2
end Go.Proofs.YtchhbnnpannnhaaGreatDoor
