/- nfa.Match: all places at once. No condition. -/
import Derived.Test.YtchhbnnpannnhaaDoorNfG
import Derived.Test.YtchhbnnpannnhaaDoorRegK
import Derived.Laws.IdiomStrings
import Derived.Lib.Buffer
import Derived.Deep.AppendLies
namespace Go.Proofs.YtchhbnnpannnhaaDoor
open Go.RowKit Go.Maps
set_option linter.unusedVariables false

theorem simN_congr {lv : List UInt8} {pr : Nat → Nat → Bool} {ls : Nat → Bool} : ∀ (s : List UInt8) {now now' : Nat → Bool}, (∀ i, now i = now' i) → simN lv pr ls now s = simN lv pr ls now' s := by
  intro s now now' h
  have e : now = now' := funext h
  rw [e]
theorem sim_last {lv : List UInt8} {pr : Nat → Nat → Bool} {ls : Nat → Bool} {L La : List Nat} {s : List UInt8} {k : Nat} (hk : k + 1 = s.length) (hL : ∀ x ∈ L, x < lv.length) (hA : ∀ x, x ∈ La ↔ x ∈ L ∧ bu lv x = bu s k) :
    simN lv pr ls (fun i => decide (i ∈ L)) (s.drop k) = true ↔ ∃ x ∈ La, ls x = true := by
  have hd : s.drop k = [bu s k] := by rw [List.drop_eq_getElem_cons (by omega), List.drop_eq_nil_of_le (by omega), bu_eq (by omega)]
  rw [hd]
  unfold simN atN
  rw [List.any_eq_true]
  constructor
  · rintro ⟨x, hx, h⟩
    have hx := List.mem_range.1 hx
    simp only [Bool.and_eq_true, decide_eq_true_eq, beq_iff_eq] at h
    refine ⟨x, (hA x).2 ⟨h.1.1, ?_⟩, h.2⟩
    have h2 := h.1.2
    rw [List.getElem?_eq_getElem hx] at h2
    rw [bu_eq hx]; exact Option.some.inj h2
  · rintro ⟨x, hx, h⟩
    obtain ⟨h1, h2⟩ := (hA x).1 hx
    have hxl := hL x h1
    refine ⟨x, List.mem_range.2 hxl, ?_⟩
    simp only [Bool.and_eq_true, decide_eq_true_eq, beq_iff_eq]
    exact ⟨⟨h1, by rw [List.getElem?_eq_getElem hxl, ← h2, bu_eq hxl]⟩, h⟩
theorem sim_next {lv : List UInt8} {pr : Nat → Nat → Bool} {ls : Nat → Bool} {L La Lb : List Nat} {s : List UInt8} {k : Nat} (hk : k + 1 < s.length) (hL : ∀ x ∈ L, x < lv.length) (hA : ∀ x, x ∈ La ↔ x ∈ L ∧ bu lv x = bu s k)
    (hB : ∀ y, y ∈ Lb ↔ ∃ x, pr x y = true ∧ x ∈ La) : simN lv pr ls (fun i => decide (i ∈ L)) (s.drop k) = simN lv pr ls (fun i => decide (i ∈ Lb)) (s.drop (k + 1)) := by
  have hd : s.drop k = bu s k :: bu s (k + 1) :: s.drop (k + 2) := by rw [List.drop_eq_getElem_cons (by omega), List.drop_eq_getElem_cons (by omega), bu_eq (by omega), bu_eq (by omega)]
  have hd2 : s.drop (k + 1) = bu s (k + 1) :: s.drop (k + 2) := by rw [List.drop_eq_getElem_cons (by omega), bu_eq (by omega)]
  rw [hd, hd2]
  conv => lhs; unfold simN
  refine simN_congr _ fun y => ?_
  rw [Bool.eq_iff_iff, decide_eq_true_eq, hB y]
  unfold goN atN
  rw [List.any_eq_true]
  constructor
  · rintro ⟨x, hx, h⟩
    have hx := List.mem_range.1 hx
    simp only [Bool.and_eq_true, decide_eq_true_eq, beq_iff_eq] at h
    refine ⟨x, h.2, (hA x).2 ⟨h.1.1, ?_⟩⟩
    have h2 := h.1.2
    rw [List.getElem?_eq_getElem hx] at h2
    rw [bu_eq hx]; exact Option.some.inj h2
  · rintro ⟨x, h, hx⟩
    obtain ⟨h1, h2⟩ := (hA x).1 hx
    have hxl := hL x h1
    refine ⟨x, List.mem_range.2 hxl, ?_⟩
    simp only [Bool.and_eq_true, decide_eq_true_eq, beq_iff_eq]
    exact ⟨⟨h1, by rw [List.getElem?_eq_getElem hxl, ← h2, bu_eq hxl]⟩, h⟩
/-- What a tree's places say of a text. -/
def simP (t : Pt) (s : List UInt8) : Bool := simN (leaves t) (fun i j => decide ((i, j) ∈ prP t)) (fun i => decide (i ∈ lsP t)) (fun i => decide (i ∈ fsP t)) s
def mtch (t : Pt) (s : List UInt8) : Bool := if s = [] then nul t else simP t s
def matchE (p s : List UInt8) : Int := if parsE p ≠ 0 then parsE p else if 8 < s.length then 4 else 0
def matchV (p s : List UInt8) : Bool := decide (matchE p s = 0) && match par p with
  | some t => mtch t s
  | none => false
theorem sm_lt : ∀ {n : Nat} {t : Pt}, Sm n t → (∀ i, i ∈ fsP t → i < n) ∧ (∀ i, i ∈ lsP t → i < n) ∧ ∀ i j, (i, j) ∈ prP t → i < n ∧ j < n
  | n, .non, h => ⟨fun i hi => (by cases hi), fun i hi => (by cases hi), fun i j hi => (by cases hi)⟩
  | n, .emp, h => ⟨fun i hi => (by cases hi), fun i hi => (by cases hi), fun i j hi => (by cases hi)⟩
  | n, .sgn c k, h => by
    have h : k < n := h
    refine ⟨fun i hi => ?_, fun i hi => ?_, fun i j hi => (by cases hi)⟩
    · rw [List.mem_singleton.1 hi]; exact h
    · rw [List.mem_singleton.1 hi]; exact h
  | n, .alt l r, h => by
    obtain ⟨a1, a2, a3⟩ := sm_lt h.1
    obtain ⟨b1, b2, b3⟩ := sm_lt h.2
    exact ⟨fun i hi => (List.mem_append.1 hi).elim (a1 i) (b1 i), fun i hi => (List.mem_append.1 hi).elim (a2 i) (b2 i), fun i j hi => (List.mem_append.1 hi).elim (a3 i j) (b3 i j)⟩
  | n, .seq l r, h => by
    obtain ⟨a1, a2, a3⟩ := sm_lt h.1
    obtain ⟨b1, b2, b3⟩ := sm_lt h.2
    refine ⟨fun i hi => ?_, fun i hi => ?_, fun i j hi => ?_⟩
    · unfold fsP at hi
      split at hi
      · exact (List.mem_append.1 hi).elim (a1 i) (b1 i)
      · exact a1 i hi
    · unfold lsP at hi
      split at hi
      · exact (List.mem_append.1 hi).elim (b2 i) (a2 i)
      · exact b2 i hi
    · rcases List.mem_append.1 hi with hi | hi
      · exact (List.mem_append.1 hi).elim (a3 i j) (b3 i j)
      · rw [mem_crs] at hi; exact ⟨a2 i hi.1, b1 j hi.2⟩
  | n, .str l, h => by
    obtain ⟨a1, a2, a3⟩ := sm_lt (t := l) h
    refine ⟨a1, a2, fun i j hi => ?_⟩
    rcases List.mem_append.1 hi with hi | hi
    · exact a3 i j hi
    · rw [mem_crs] at hi; exact ⟨a2 i hi.1, a1 j hi.2⟩
theorem four_atJ {w : World} {g : Nat} {a b c d : Value} {t : TypeId} (h : w.heap[g]? = some (.cells #[a, b, c, d] t)) : w.cell? ⟨g, 0, none⟩ = some a ∧ w.cell? ⟨g, 1, none⟩ = some b ∧ w.cell? ⟨g, 2, none⟩ = some c ∧ w.cell? ⟨g, 3, none⟩ = some d ∧ w.frozen? ⟨g, 0, none⟩ = false ∧ w.frozen? ⟨g, 1, none⟩ = false := by
  refine ⟨?_, ?_, ?_, ?_, ?_, ?_⟩
  · rw [cell_of_row w g 0 _ _ (0, 0) h]; rfl
  · rw [cell_of_row w g 1 _ _ (0, 0) h]; rfl
  · rw [cell_of_row w g 2 _ _ (0, 0) h]; rfl
  · rw [cell_of_row w g 3 _ _ (0, 0) h]; rfl
  · simp [World.frozen?, h]
  · simp [World.frozen?, h]
/-- '[]byte(s)'. -/
theorem conv_str (l : List UInt8) (w : World) : ∃ cap w', (convert 9 54 (S l)).run Tryd.prog w = .ok (.slice (some ⟨w.heap.size, 0, none⟩) l.length cap) w' ∧ Below w.heap.size w w' ∧ w'.heap.size = w.heap.size + 1 ∧
    ∀ j, j < l.length → w'.cell? ⟨w.heap.size, j, none⟩ = some (.int .u8 ((bu l j).toNat : Int)) := by
  refine ⟨_, _, run_bytes_of_string w 9 54 5 ⟨l.toArray⟩ Tryd.underlying9 Tryd.underlying54 Tryd.underlying5, ?_, ?_, ?_⟩
  · exact (show Below w.heap.size w w.drew from below_drewN (Below.refl _ _) 1).alloc (Nat.le_refl _) _
  · show (w.heap.push _).size = _; simp
  · intro j hj
    have := World.cell?_alloc_mark w.drew (bytesRow ⟨l.toArray⟩ (grownCap w (ByteArray.mk l.toArray).size 0 5)) 5 ((bytesRow ⟨l.toArray⟩ (grownCap w (ByteArray.mk l.toArray).size 0 5)).size, (bytesRow ⟨l.toArray⟩ (grownCap w (ByteArray.mk l.toArray).size 0 5)).size + 1) j
    refine Eq.trans this ?_
    unfold bytesRow
    rw [Array.getElem?_append_left (by simpa using hj)]
    simp [bu_eq hj, hj]
set_option maxRecDepth 100000 in
set_option maxHeartbeats 4000000 in
theorem match_any (p s : List UInt8) (w : World) (h9 : p.length ≤ 9223372036854775807) (hs9 : s.length ≤ 9223372036854775807) :
    Calls Tryd.prog 10 #[S p, S s] w fun e w' => e = .returned (.tuple #[.bool (matchV p s), errV (matchE p s)]) ∧ Below w.heap.size w w' := by
  have hmm := @run_makeMap Tryd.prog
  have HP := Lib.hid (parse_any p w h9)
  have HV : Hid (matchV p s = (decide (matchE p s = 0) && match par p with | some t => mtch t s | none => false)) := Lib.hid rfl
  have HE : Hid (matchE p s = if parsE p ≠ 0 then parsE p else if 8 < s.length then 4 else 0) := Lib.hid rfl
  generalize matchV p s = V at *
  generalize matchE p s = E at *
  go_enter Tryd.func10, Tryd.ntmps10
  go_wp2_with fail
  refine HP.out.mono ?_
  rintro e w1 ⟨⟨hne, rfl⟩ | ⟨t, g, h0, h12, ht, rfl, hnd⟩, hb⟩
  · have HB := Lib.hid hb
    have HEE := Lib.hid (err_ne hne)
    have e1 : E = parsE p := by rw [HE.out, if_pos hne]
    have e2 : V = false := by rw [HV.out, e1]; simp [hne]
    subst e1 e2
    clear hb HP hne HV HE
    rw [HEE.out]
    go_wp2_with fail
    go_ret2
    first | exact ⟨rfl, HB.out⟩ | exact ⟨by rw [HEE.out]; rfl, HB.out⟩
  have HB := Lib.hid hb
  have HL : Hid ((leaves t).length ≤ 12 ∧ Sm 64 t ∧ Sm (leaves t).length t) := Lib.hid (by
    obtain ⟨q1, q2⟩ := par_leaves ht
    have q3 : (lets p).length ≤ p.length := List.length_filter_le _ _
    exact ⟨by rw [q1]; omega, Sm.of_num q2 (by omega), Sm.of_num q2 (by rw [q1]; exact Nat.le_refl _)⟩)
  have hp0 : ¬ (parsE p ≠ 0) := fun h => h h0
  rw [ht] at HV
  rw [if_neg hp0] at HE
  have HN := Lib.hid hnd
  have hA : (w1.alloc (.cells #[S s] 9)).cell? ⟨w1.heap.size, 0, none⟩ = some (S s) := by rw [cell_of_row _ w1.heap.size 0 _ _ (0, 0) (heap_alloc_new w1 _)]; rfl
  have hb1 := (Below.refl w1.heap.size w1).alloc (Nat.le_refl _) (.cells #[S s] 9)
  clear hb HP hp0 hnd
  by_cases h8 : 8 < s.length
  · have HQ := Lib.hid (long1_yes 8 s (w1.alloc (.cells #[S s] 9)) w1.heap.size 0 hA (by omega))
    have e1 : E = 4 := by rw [HE.out, if_pos h8]
    have e2 : V = false := by rw [HV.out, e1]; rfl
    subst e1 e2
    have HB1 := Lib.hid (HB.out.trans (hb1.mono HB.out.size))
    clear HV HE hA hb1
    go_wp2_with fail
    refine HQ.out.mono ?_
    rintro e w2 ⟨rfl, rfl⟩
    go_wp2_with fail
    go_ret2
    exact ⟨rfl, HB1.out⟩
  have HQ := Lib.hid (long1_no 8 s (w1.alloc (.cells #[S s] 9)) w1.heap.size 0 hA (by omega))
  have e1 : E = 0 := by rw [HE.out, if_neg h8]
  subst e1
  have HN2 := Lib.hid (HN.out.below hb1)
  have HB2 := Lib.hid (HB.out.trans (hb1.mono HB.out.size))
  clear HE hA hb1
  by_cases hs0 : s = []
  · subst hs0
    have e2 : V = nul t := by rw [HV.out]; simp [mtch]
    have HU := Lib.hid (null_any t g _ HN2.out)
    rw [← e2] at HU
    clear HV e2
    go_wp2_with fail
    refine HQ.out.mono ?_
    rintro e w2 ⟨rfl, rfl⟩
    go_wp2_with fail
    refine HU.out.mono ?_
    rintro e w3 ⟨rfl, rfl⟩
    go_wp2_with fail
    go_ret2
    exact ⟨rfl, HB2.out⟩
  have hsz : 0 < s.length := List.length_pos_iff.2 hs0
  have HV2 : Hid (V = simP t s) := Lib.hid (by rw [HV.out]; simp [mtch, hs0])
  clear HV
  go_wp2_with fail
  refine HQ.out.mono ?_
  rintro e w2 ⟨rfl, rfl⟩
  have HPM := Lib.hid (MSet.made Tryd.prog 56 eJ okJ (w1.alloc (.cells #[S s] 9)))
  generalize w1.alloc (.cells #[S s] 9) = w2 at *
  have hse : s.isEmpty = false := by cases s with | nil => exact absurd rfl hs0 | cons c s => rfl
  have HLV := Lib.hid (leaves_any t g (w2.alloc (.map #[] 0)) (HN2.out.below ((Below.refl _ w2).alloc (Nat.le_refl _) _)) (by have := HL.out.1; omega))
  go_wp2_with fail
  refine HLV.out.mono ?_
  rintro e w3 ⟨⟨v, rfl, ho⟩, hb3⟩
  have hs3 : (w2.alloc (.map #[] 0)).heap.size = w2.heap.size + 1 := by simp
  have HO3 := Lib.hid ho
  have HP3 : Hid (SJ w3 w2.heap.size [] ∧ Below w2.heap.size w2 w3 ∧ w2.heap.size + 1 ≤ w3.heap.size) := Lib.hid ⟨HPM.out.below hb3 (by rw [hs3]; omega), ((Below.refl _ w2).alloc (Nat.le_refl _) _).trans (hb3.mono (by rw [hs3]; omega)), by have := hb3.size; omega⟩
  obtain ⟨A1, c1, rfl, _⟩ := own_shape ho
  clear ho hb3 HPM HLV hs3
  go_upto_region 10 with fail
  have HA4 : Hid ((w3.alloc (.cells #[.map none, .map none, .map (some w2.heap.size), .slice A1 (leaves t).length c1] 67)).heap[w3.heap.size]? = some (.cells #[.map none, .map none, .map (some w2.heap.size), .slice A1 (leaves t).length c1] 67)) := Lib.hid (heap_alloc_new w3 _)
  have c42 : (w3.alloc (.cells #[.map none, .map none, .map (some w2.heap.size), .slice A1 (leaves t).length c1] 67)).cell? ⟨w3.heap.size, 2, none⟩ = some (.map (some w2.heap.size)) := by rw [cell_of_row _ w3.heap.size 2 _ _ (0, 0) (heap_alloc_new w3 _)]; rfl
  have hb4 := (Below.refl w3.heap.size w3).alloc (Nat.le_refl _) (.cells #[.map none, .map none, .map (some w2.heap.size), .slice A1 (leaves t).length c1] 67)
  have HP4 : Hid (SJ (w3.alloc (.cells #[.map none, .map none, .map (some w2.heap.size), .slice A1 (leaves t).length c1] 67)) w2.heap.size [] ∧ Below w2.heap.size w2 (w3.alloc (.cells #[.map none, .map none, .map (some w2.heap.size), .slice A1 (leaves t).length c1] 67)) ∧ w2.heap.size < w3.heap.size ∧ OwnB (w3.alloc (.cells #[.map none, .map none, .map (some w2.heap.size), .slice A1 (leaves t).length c1] 67)) (w2.alloc (.map #[] 0)).heap.size (.slice A1 (leaves t).length c1) (leaves t) ∧ (w3.alloc (.cells #[.map none, .map none, .map (some w2.heap.size), .slice A1 (leaves t).length c1] 67)).heap.size = w3.heap.size + 1) :=
    Lib.hid ⟨HP3.out.1.below hb4 (by have := HP3.out.2.2; omega), HP3.out.2.1.trans (hb4.mono (by have := HP3.out.2.2; omega)), HP3.out.2.2, HO3.out.keep hb4 (Nat.le_refl _), by simp⟩
  generalize w3.alloc (.cells #[.map none, .map none, .map (some w2.heap.size), .slice A1 (leaves t).length c1] 67) = w4 at *
  have HOF := Lib.hid (of_any t g w2.heap.size [] w4 (HN2.out.below HP4.out.2.1) HP4.out.1 HL.out.2.1)
  clear HP3 HO3 hb4
  go_wp2_with (refine HOF.out.mono ?_; rintro e w5 ⟨a, b, rfl, h1, h2, h3, h4, h5, h6⟩; have hA5 : w5.heap[w3.heap.size]? = some (.cells #[.map none, .map none, .map (some w2.heap.size), .slice A1 (leaves t).length c1] 67) := (h6.block w3.heap.size (by have := HP4.out.2.2.2.2; omega) (fun e => by have := Option.some.inj e; have := HP4.out.2.2.1; omega)).trans HA4.out; obtain ⟨d0, d1, d2, d3, z0, z1⟩ := four_atJ hA5)
  have HA6 : Hid (((w5.setCell ⟨w3.heap.size, 0, none⟩ (.map (some a))).setCell ⟨w3.heap.size, 1, none⟩ (.map (some b))).heap[w3.heap.size]? = some (.cells #[.map (some a), .map (some b), .map (some w2.heap.size), .slice A1 (leaves t).length c1] 67)) := Lib.hid (by simp [World.setCell, Array.getElem?_modify, hA5])
  have hk6 : ∀ k, k ≠ w3.heap.size → ((w5.setCell ⟨w3.heap.size, 0, none⟩ (.map (some a))).setCell ⟨w3.heap.size, 1, none⟩ (.map (some b))).heap[k]? = w5.heap[k]? := fun k hk => (Below.heap_setCell _ _ _ _ hk).trans (Below.heap_setCell _ _ _ _ hk)
  have hs6 : ((w5.setCell ⟨w3.heap.size, 0, none⟩ (.map (some a))).setCell ⟨w3.heap.size, 1, none⟩ (.map (some b))).heap.size = w5.heap.size := by simp [World.setCell]
  have h5s := h6.size
  have hq4 := HP4.out.2.2.2.2
  have hq3 := HP4.out.2.2.1
  have HW6 : Hid (SI ((w5.setCell ⟨w3.heap.size, 0, none⟩ (.map (some a))).setCell ⟨w3.heap.size, 1, none⟩ (.map (some b))) a (fsP t) ∧ SI ((w5.setCell ⟨w3.heap.size, 0, none⟩ (.map (some a))).setCell ⟨w3.heap.size, 1, none⟩ (.map (some b))) b (lsP t) ∧
      SJ ((w5.setCell ⟨w3.heap.size, 0, none⟩ (.map (some a))).setCell ⟨w3.heap.size, 1, none⟩ (.map (some b))) w2.heap.size (prP t) ∧ OwnB ((w5.setCell ⟨w3.heap.size, 0, none⟩ (.map (some a))).setCell ⟨w3.heap.size, 1, none⟩ (.map (some b))) (w2.heap.size + 1) (.slice A1 (leaves t).length c1) (leaves t) ∧
      Below w2.heap.size w2 ((w5.setCell ⟨w3.heap.size, 0, none⟩ (.map (some a))).setCell ⟨w3.heap.size, 1, none⟩ (.map (some b)))) := Lib.hid (by
    have hgr : w4.grownBy ((w5.setCell ⟨w3.heap.size, 0, none⟩ (.map (some a))).setCell ⟨w3.heap.size, 1, none⟩ (.map (some b))) none → True := fun _ => trivial
    refine ⟨h3.block (hk6 _ (by omega)), h4.block (hk6 _ (by omega)), MSet.block (by simpa using h5) (hk6 _ (by omega)), ?_, ?_⟩
    · have ho := HP4.out.2.2.2.1
      rw [World.size_alloc] at ho
      have ho5 : w5.ownsRow (w2.heap.size + 1) 5 1 (.slice A1 (leaves t).length c1) (leaves t).length (bcells (leaves t)) := ho.kept h6 (by
        cases hv : (Value.slice A1 (leaves t).length c1).ownBlock with
        | none => exact .inl rfl
        | some k => exact .inr fun e => by have := (ho.lt k hv).1; have := Option.some.inj e; omega)
      have hne : ∀ k, (Value.slice A1 (leaves t).length c1).ownBlock = some k → k ≠ w3.heap.size := fun k hk e => by
        obtain ⟨_, h' | ⟨g', cap', cur', e1, _, hh', _⟩⟩ := ho5
        · obtain ⟨e1, _⟩ := h'; rw [e1] at hk; cases hk
        · rw [e1] at hk
          obtain rfl : g' = k := by injection hk
          rw [e, hA5] at hh'
          injection hh' with hh'
          injection hh' with _ hh' _
          exact absurd hh' (by decide)
      refine ho5.kept (w' := (w5.setCell ⟨w3.heap.size, 0, none⟩ (.map (some a))).setCell ⟨w3.heap.size, 1, none⟩ (.map (some b))) (row := some w3.heap.size) ⟨rfl, rfl, rfl, Nat.le_of_eq hs6.symm, fun k _ hk => hk6 k (fun e => hk (by rw [e]))⟩ ?_
      cases hv : (Value.slice A1 (leaves t).length c1).ownBlock with
      | none => exact .inl rfl
      | some k => exact .inr fun e => hne k hv (Option.some.inj e)
    · exact ((HP4.out.2.1.grown h6 (by omega) (fun k hk => by cases hk; exact Nat.le_refl _)).setCell (by show w2.heap.size ≤ w3.heap.size; omega) _).setCell (by show w2.heap.size ≤ w3.heap.size; omega) _)
  have HSZ : Hid (w3.heap.size < ((w5.setCell ⟨w3.heap.size, 0, none⟩ (.map (some a))).setCell ⟨w3.heap.size, 1, none⟩ (.map (some b))).heap.size) := Lib.hid (by rw [hs6]; omega)
  clear h1 h2 h3 h4 h5 h6 hA5 d0 d1 d2 d3 z0 z1 hk6 hs6 h5s hq4 hq3 HOF HA4 c42 HP4
  generalize (w5.setCell ⟨w3.heap.size, 0, none⟩ (.map (some a))).setCell ⟨w3.heap.size, 1, none⟩ (.map (some b)) = w6 at *
  obtain ⟨cap, W0, hcv, hB7, hz7, hc7⟩ := conv_str s w6
  have HM : Hid (W0.heap[w3.heap.size]? = some (.cells #[.map (some a), .map (some b), .map (some w2.heap.size), .slice A1 (leaves t).length c1] 67) ∧ SI W0 a (fsP t) ∧ SI W0 b (lsP t) ∧ SJ W0 w2.heap.size (prP t) ∧
      (∀ i, i < (leaves t).length → ∃ gs, A1 = some ⟨gs, 0, none⟩ ∧ gs < W0.heap.size ∧ W0.cell? ⟨gs, i, none⟩ = some (.int .u8 ((bu (leaves t) i).toNat : Int))) ∧ (∀ j, j < s.length → W0.cell? ⟨w6.heap.size, j, none⟩ = some (.int .u8 ((bu s j).toNat : Int))) ∧
      Below w.heap.size w W0 ∧ w6.heap.size < W0.heap.size ∧ w3.heap.size < W0.heap.size) := Lib.hid (by
    have hq := HSZ.out
    refine ⟨(hB7.block _ hq).trans HA6.out, HW6.out.1.below hB7 HW6.out.1.lt, HW6.out.2.1.below hB7 HW6.out.2.1.lt, HW6.out.2.2.1.below hB7 HW6.out.2.2.1.lt, fun i hi => ?_, hc7, HB2.out.trans ((HW6.out.2.2.2.2.trans (hB7.mono HW6.out.2.2.2.2.size)).mono HB2.out.size), by omega, by omega⟩
    have ho := HW6.out.2.2.2.1.keep hB7 (Nat.le_refl _)
    obtain ⟨g', cap', e1, _, hlt⟩ := World.ownsRow.form ho (by omega)
    injection e1 with e1 _ _
    refine ⟨g', e1, hlt, ?_⟩
    have := World.ownsRow.cells ho (g := g') (by rw [e1]; rfl) i (.int .u8 ((bu (leaves t) i).toNat : Int)) (by unfold bcells; rw [List.getElem?_map, List.getElem?_eq_getElem hi, bu_eq hi]; rfl)
    rwa [Addr.add_lit, Nat.zero_add] at this)
  clear hB7 hz7 hc7 HW6 HSZ HA6 HB2 HN2 HQ
  rw [hcv]
  simp only [Result.andThen]
  rw [Oper.upon_value]
  have HAT : Hid (∀ W, Below W0.heap.size W0 W → W.cell? ⟨w3.heap.size, 1, none⟩ = some (.map (some b)) ∧ W.cell? ⟨w3.heap.size, 2, none⟩ = some (.map (some w2.heap.size)) ∧ W.cell? ⟨w3.heap.size, 3, none⟩ = some (.slice A1 (leaves t).length c1) ∧
      (∀ i, i < (leaves t).length → ∃ gs, A1 = some ⟨gs, 0, none⟩ ∧ W.cell? ⟨gs, i, none⟩ = some (.int .u8 ((bu (leaves t) i).toNat : Int))) ∧ (∀ j, j < s.length → W.cell? ⟨w6.heap.size, j, none⟩ = some (.int .u8 ((bu s j).toNat : Int)))) := Lib.hid (fun W hW => by
    obtain ⟨m1, _, _, _, m5, m6, _, m8, m9⟩ := HM.out
    obtain ⟨_, q1, q2, q3, _, _⟩ := four_atJ m1
    refine ⟨(hW.cell (p := ⟨w3.heap.size, 1, none⟩) m9).trans q1, (hW.cell (p := ⟨w3.heap.size, 2, none⟩) m9).trans q2, (hW.cell (p := ⟨w3.heap.size, 3, none⟩) m9).trans q3, fun i hi => ?_, fun j hj => (hW.cell (p := ⟨w6.heap.size, j, none⟩) m8).trans (m6 j hj)⟩
    obtain ⟨gs, e1, e2, e3⟩ := m5 i hi
    exact ⟨gs, e1, (hW.cell (p := ⟨gs, i, none⟩) e2).trans e3⟩)
  have HPL := Lib.hid (sm_lt HL.out.2.2)
  clear hcv
  have hl1 : IntKind.i64.wrap ((s.length : Int) - 1) = (s.length : Int) - 1 := IntWalk.i64_in _ (by omega)
  go_wp2_with fail
  go_loopw [10, 53] (fun nv kv wr => ∃ (k g1 : Nat) (L : List Nat), nv = .map (some g1) ∧ kv = .int .i64 (k : Int) ∧ k < s.length ∧ SI wr g1 L ∧ Hid (Below W0.heap.size W0 wr) ∧
      Hid ((∀ x ∈ L, x < (leaves t).length) ∧ simN (leaves t) (fun i j => decide ((i, j) ∈ prP t)) (fun i => decide (i ∈ lsP t)) (fun i => decide (i ∈ L)) (s.drop k) = V)) (fun _ kv _ => s.length - (intOf kv).toNat)
  case atStart => exact ⟨0, a, fsP t, rfl, rfl, hsz, HM.out.2.1, Lib.hid (Below.refl _ _), Lib.hid ⟨HPL.out.1, HV2.out.symm⟩⟩
  case round =>
    obtain ⟨k, g1, L, rfl, rfl, hk, hsi, HBW, HI⟩ := hrel
    have htx := (HAT.out _ HBW.out).2.2.2.2 k hk
    have z1 : (k : Int) < (s.length : Int) := by omega
    have HSI := Lib.hid hsi
    go_upto_region 16 with fail
    have hm1 : Hid (SI (wr.alloc (.map #[] 0)) wr.heap.size [] ∧ SI (wr.alloc (.map #[] 0)) g1 L ∧ Below W0.heap.size W0 (wr.alloc (.map #[] 0)) ∧ W0.heap.size ≤ wr.heap.size ∧ wr.heap.size < (wr.alloc (.map #[] 0)).heap.size ∧ g1 < wr.heap.size) :=
      Lib.hid ⟨MSet.made _ _ _ _ wr, hsi.alloc _, HBW.out.trans (((Below.refl _ wr).alloc (Nat.le_refl _) _).mono HBW.out.size), HBW.out.size, by simp, hsi.lt⟩
    generalize wr.alloc (.map #[] 0) = W1 at *
    generalize wr.heap.size = ab at *
    clear hsi
    go_wp2_with (first
      | (at_range; refine wpList_set_range rfl _ 51 rfl _ keyI Tryd.underlying51 g1 L rfl hm1.out.2.1 ?_; intro w4 cnt4 hrg4 hg4 hs4)
      | go_in)
    go_frame
    go_loopw [61] (fun _ wr => ∃ (left : Nat → Prop) (cnt : Nat) (La : List Nat), RSet Tryd.prog 3 eI okI wr g1 W1.heap.size L left cnt ∧ SI wr ab La ∧ Hid (∀ x, x ∈ La ↔ x ∈ L ∧ ¬ left x ∧ bu (leaves t) x = bu s k) ∧ Hid (Below W0.heap.size W0 wr))
      (fun _ wr => wr.rangeLeft g1 W1.heap.size)
    case atStart =>
      exact ⟨_, _, [], hrg4, hm1.out.1.kept hg4 (by simp), Lib.hid (fun x => ⟨fun h => (by cases h), fun h => absurd h.1 h.2.1⟩), Lib.hid (hm1.out.2.2.1.grown hg4 (by have := hm1.out.2.2.1.size; omega) (fun k hk => by cases hk))⟩
    case round =>
      obtain ⟨left, cnt, La, hrg, hout, HA, HBW2⟩ := hrel
      go_wp2_with (first
        | (at_next; refine wpList_set_next rfl _ rfl keyI g1 W1.heap.size L left cnt rfl hrg ?_ ?_)
        | go_in)
      · intro hdone
        have HAD : Hid (∀ x, x ∈ La ↔ x ∈ L ∧ bu (leaves t) x = bu s k) := Lib.hid (fun x => (HA.out x).trans ⟨fun h => ⟨h.1, h.2.2⟩, fun h => ⟨h.1, hdone x h.1, h.2⟩⟩)
        have HOUT := Lib.hid hout
        clear hrg hout HA hdone hrg4 hg4 hs4
        by_cases hlast : k + 1 = s.length
        · have hbl : (((k : Int)) == ((s.length : Int) - 1)) = true := by simp; omega
          have HF : Hid (V = true ↔ ∃ x ∈ La, x ∈ lsP t) := Lib.hid (by
            rw [← HI.out.2, sim_last hlast HI.out.1 HAD.out]
            simp only [decide_eq_true_eq])
          have HMB : Hid (∀ W, Below W0.heap.size W0 W → SI W b (lsP t)) := Lib.hid (fun W h => HM.out.2.2.1.below h HM.out.2.2.1.lt)
          have HBW3 := HBW2
          have HWW : Hid (∀ W, Below W0.heap.size W0 W → Below w.heap.size w W) := Lib.hid (fun W h => HM.out.2.2.2.2.2.2.1.trans (h.mono HM.out.2.2.2.2.2.2.1.size))
          go_wp2_with (first
            | (at_range; refine wpList_set_range rfl _ 51 rfl _ keyI Tryd.underlying51 ab La rfl HOUT.out ?_; intro w7 cnt7 hrg7 hg7 hs7)
            | go_in)
          go_frame
          have hb7 : Below W0.heap.size W0 w7 := HBW3.out.grown hg7 HBW3.out.size (fun q hq => by cases hq)
          have hr7 : W0.heap.size ≤ wr.heap.size := HBW3.out.size
          generalize wr.heap.size = rb at *
          go_loopw [81] (fun _ wr => ∃ (left : Nat → Prop) (cnt : Nat), RSet Tryd.prog 3 eI okI wr ab rb La left cnt ∧ Hid (∀ x ∈ La, ¬ left x → x ∉ lsP t) ∧ Hid (Below W0.heap.size W0 wr))
            (fun _ wr => wr.rangeLeft ab rb)
          case atStart => exact ⟨_, _, hrg7, Lib.hid (fun x hx h => absurd hx h), Lib.hid hb7⟩
          case round =>
            obtain ⟨left, cnt, hrg, HX, HB8⟩ := hrel
            go_wp2_with (first
              | (at_next; refine wpList_set_next rfl _ rfl keyI ab rb La left cnt rfl hrg ?_ ?_)
              | go_in)
            · intro hdone
              have hv : V = false := by
                cases hV : V with
                | false => rfl
                | true =>
                  obtain ⟨x, hx, h⟩ := HF.out.1 hV
                  exact absurd h (HX.out x hx (hdone x hx))
              subst hv
              have HZ := Lib.hid (HWW.out _ HB8.out)
              clear hrg hdone
              go_wp2_with fail
              go_ret2
              exact ⟨rfl, HZ.out⟩
            · intro x w9 cnt9 hxL hl hrg9 hlt hg9 hs9 hen
              clear hs9
              have hbw9 : Below W0.heap.size W0 w9 := HB8.out.grown hg9 HB8.out.size (fun q hq => by cases hq; exact hr7)
              have hsb := HMB.out _ hbw9
              have hokx : okI x := HOUT.out.1 x hxL
              obtain ⟨f1, _⟩ := HAT.out _ hbw9
              have HB9 := Lib.hid hbw9
              have HLE := Lib.hid hrg.left_eq
              clear hrg hg9 hbw9
              go_wp2_with (first
                | (at_lookup; refine wpList_set_look rfl _ _ 51 rfl _ keyI Tryd.underlying51 (Tryd.zeroValue4 _) b (lsP t) rfl hsb x hokx rfl ?_; intro q hq; go_frame)
                | go_in)
              · have hv : V = true := HF.out.2 ⟨x, hxL, hq.1 (by assumption)⟩
                subst hv
                go_ret2
                exact ⟨rfl, HWW.out _ HB9.out⟩
              · have hq0 : x ∉ lsP t := fun h => by
                  have h1 := hq.2 h
                  have h2 : ¬ q = true ∨ q = false := by first | exact .inl (by assumption) | exact .inr (by assumption)
                  rcases h2 with h2 | h2
                  · exact h2 h1
                  · rw [h2] at h1; cases h1
                go_roundw
                case rel =>
                  have hX2 : Hid (∀ z ∈ La, ¬ (left z ∧ z ≠ x) → z ∉ lsP t) := Lib.hid (fun z hz h => by
                    by_cases e : z = x
                    · subst e; exact hq0
                    · exact HX.out z hz (fun h' => h ⟨h', e⟩))
                  exact ⟨_, cnt9, hrg9, hX2, HB9⟩
                case measure => rw [hrg9.left_eq, HLE.out]; exact hlt
        · have hbl : (((k : Int)) == ((s.length : Int) - 1)) = false := by simp; omega
          have f2 := (HAT.out _ (HBW2.out.trans (((Below.refl _ wr).alloc (Nat.le_refl _) (.map #[] 0)).mono HBW2.out.size))).2.1
          go_upto_region 29 with fail
          have hm2 : Hid (SI (wr.alloc (.map #[] 0)) wr.heap.size [] ∧ SI (wr.alloc (.map #[] 0)) ab La ∧ SJ (wr.alloc (.map #[] 0)) w2.heap.size (prP t) ∧ Below W0.heap.size W0 (wr.alloc (.map #[] 0)) ∧ W0.heap.size ≤ wr.heap.size ∧ ab < wr.heap.size ∧ w2.heap.size < W0.heap.size ∧ wr.heap.size < (wr.alloc (.map #[] 0)).heap.size ∧ W0.heap.size ≤ ab) :=
            Lib.hid ⟨MSet.made _ _ _ _ wr, HOUT.out.alloc _, (HM.out.2.2.2.1.below HBW2.out HM.out.2.2.2.1.lt).alloc _, HBW2.out.trans (((Below.refl _ wr).alloc (Nat.le_refl _) _).mono HBW2.out.size), HBW2.out.size, HOUT.out.lt, HM.out.2.2.2.1.lt, by simp, hm1.out.2.2.2.1⟩
          generalize wr.alloc (.map #[] 0) = W2 at *
          generalize wr.heap.size = nb at *
          go_wp2_with (first
            | (at_range; refine wpList_set_range rfl _ 50 rfl _ keyJ Tryd.underlying50 w2.heap.size (prP t) rfl hm2.out.2.2.1 ?_; intro w7 cnt7 hrg7 hg7 hs7)
            | go_in)
          go_frame
          have hb7 : Below W0.heap.size W0 w7 := hm2.out.2.2.2.1.grown hg7 hm2.out.2.2.2.1.size (fun q hq => by cases hq)
          have hr7 : nb < W2.heap.size := hm2.out.2.2.2.2.2.2.2.1
          have hsn := hm2.out.1.kept hg7 (by simp)
          have hsa := hm2.out.2.1.kept hg7 (by simp)
          generalize W2.heap.size = rb at *
          go_loopw [93] (fun _ wr => ∃ (left : Nat × Nat → Prop) (cnt : Nat) (Lb : List Nat), RSet Tryd.prog 56 eJ okJ wr w2.heap.size rb (prP t) left cnt ∧ SI wr nb Lb ∧ SI wr ab La ∧ Hid (∀ y, y ∈ Lb ↔ ∃ x, (x, y) ∈ prP t ∧ ¬ left (x, y) ∧ x ∈ La) ∧ Hid (Below W0.heap.size W0 wr))
            (fun _ wr => wr.rangeLeft w2.heap.size rb)
          case atStart => exact ⟨_, _, [], hrg7, hsn, hsa, Lib.hid (fun y => ⟨fun h => (by cases h), fun ⟨x, h1, h2, _⟩ => absurd h1 h2⟩), Lib.hid hb7⟩
          case round =>
            obtain ⟨left, cnt, Lb, hrg, hsb, hsl, HX, HB8⟩ := hrel
            have g1' := hm2.out.2.2.2.2.1
            have g2' := hm2.out.2.2.2.2.2.1
            have g3' := hm2.out.2.2.2.2.2.2.1
            have g4' := hm2.out.2.2.2.2.2.2.2.2
            go_wp2_with (first
              | (at_next; refine wpList_set_next rfl _ rfl keyJ w2.heap.size rb (prP t) left cnt rfl hrg ?_ ?_)
              | go_in)
            · intro hdone
              have HE : Hid ((∀ x ∈ Lb, x < (leaves t).length) ∧ simN (leaves t) (fun i j => decide ((i, j) ∈ prP t)) (fun i => decide (i ∈ lsP t)) (fun i => decide (i ∈ Lb)) (s.drop (k + 1)) = V) := Lib.hid (by
                have hB : ∀ y, y ∈ Lb ↔ ∃ x, decide ((x, y) ∈ prP t) = true ∧ x ∈ La := fun y => (HX.out y).trans ⟨fun ⟨x, h1, _, h3⟩ => ⟨x, decide_eq_true h1, h3⟩, fun ⟨x, h1, h3⟩ => ⟨x, of_decide_eq_true h1, hdone x y (of_decide_eq_true h1), h3⟩⟩
                refine ⟨fun y hy => ?_, ?_⟩
                · obtain ⟨x, h1, _⟩ := (HX.out y).1 hy
                  exact (HPL.out.2.2 x y h1).2
                · rw [← HI.out.2, sim_next (by omega) HI.out.1 HAD.out hB])
              have hk1 : k + 1 < s.length := by omega
              have hw1 : IntKind.i64.wrap ((k : Int) + 1) = (k : Int) + 1 := IntWalk.i64_in _ (by omega)
              clear hrg hdone
              go_wp2_with fail
              go_roundw
              case rel => exact ⟨k + 1, nb, Lb, rfl, by go_num, hk1, hsb, HB8, HE⟩
              case measure => simp [intOf]; omega
            · intro x y w9 cnt9 hxL hl hrg9 hlt hg9 hs9 hen
              clear hs9
              have hbw9 : Below W0.heap.size W0 w9 := HB8.out.grown hg9 HB8.out.size (fun q hq => by cases hq; omega)
              have hsb9 := hsb.kept hg9 (fun e => by have := Option.some.inj e; omega)
              have hsl9 := hsl.kept hg9 (fun e => by have := Option.some.inj e; omega)
              have hg10 := World.grownBy_alloc w9 (.cells #[.int .i64 (x : Int), .int .i64 (y : Int)] 56) none
              have hrg10 := hrg9.kept hg10 (by simp) (by simp)
              have hsb10 := hsb9.kept hg10 (by simp)
              have hsl10 := hsl9.kept hg10 (by simp)
              have hbw10 : Below W0.heap.size W0 (w9.alloc (.cells #[.int .i64 (x : Int), .int .i64 (y : Int)] 56)) := hbw9.grown hg10 hbw9.size (fun q hq => by cases hq)
              have hpp := (HPL.out.2.2 x y hxL)
              have hl12 := HL.out.1
              have hokx : okI x := (show x < 64 by omega)
              have hoky : okI y := (show y < 64 by omega)
              have c0 : (w9.alloc (.cells #[.int .i64 (x : Int), .int .i64 (y : Int)] 56)).cell? ⟨w9.heap.size, 0, none⟩ = some (.int .i64 (x : Int)) := by rw [cell_of_row _ w9.heap.size 0 _ _ (0, 0) (heap_alloc_new w9 _)]; rfl
              have c1' : (w9.alloc (.cells #[.int .i64 (x : Int), .int .i64 (y : Int)] 56)).cell? ⟨w9.heap.size, 1, none⟩ = some (.int .i64 (y : Int)) := by rw [cell_of_row _ w9.heap.size 1 _ _ (0, 0) (heap_alloc_new w9 _)]; rfl
              have HB9 := Lib.hid hbw10
              have HLE := Lib.hid hrg.left_eq
              clear hrg hg9 hbw9 hbw10 hg10 hsb9 hsl9 hrg9
              go_upto_region 32 with fail
              generalize w9.alloc (.cells #[.int .i64 (x : Int), .int .i64 (y : Int)] 56) = w10 at *
              generalize w9.heap.size = pb at *
              go_wp2_with (first
                | (at_lookup; refine wpList_set_look rfl _ _ 51 rfl _ keyI Tryd.underlying51 (Tryd.zeroValue4 _) ab La rfl hsl10 x hokx rfl ?_; intro q hq; go_frame)
                | (at_mapUpdate; refine wpList_set_store rfl _ _ _ 51 rfl _ keyI Tryd.underlying51 nb Lb rfl hsb10 y hoky rfl rfl ?_; intro w11 hsb11 hg11; go_frame)
                | go_in)
              · have hxa : x ∈ La := hq.1 (by assumption)
                have hrg11 := hrg10.kept hg11 (fun e => by have := Option.some.inj e; omega) (fun e => by have := Option.some.inj e; omega)
                have hsl11 := hsl10.kept hg11 (fun e => by have := Option.some.inj e; omega)
                have HB11 := Lib.hid (HB9.out.grown hg11 HB9.out.size (fun q hq => by cases hq; exact g1'))
                go_roundw
                case rel =>
                  refine ⟨_, cnt9, _, hrg11, hsb11, hsl11, Lib.hid (fun z => ?_), HB11⟩
                  rw [List.mem_append, HX.out z, List.mem_singleton]
                  constructor
                  · rintro (⟨v, h1, h2, h3⟩ | rfl)
                    · exact ⟨v, h1, fun h => h2 h.1, h3⟩
                    · exact ⟨x, hxL, fun h => h.2 rfl, hxa⟩
                  · rintro ⟨v, h1, h2, h3⟩
                    by_cases e : (v, z) = (x, y)
                    · exact .inr (congrArg Prod.snd e)
                    · exact .inl ⟨v, h1, fun h => h2 ⟨h, e⟩, h3⟩
                case measure => rw [hrg11.left_eq, HLE.out]; exact hlt
              · have hxa : x ∉ La := fun h => by
                  have h1 := hq.2 h
                  have h2 : ¬ q = true ∨ q = false := by first | exact .inl (by assumption) | exact .inr (by assumption)
                  rcases h2 with h2 | h2
                  · exact h2 h1
                  · rw [h2] at h1; cases h1
                go_roundw
                case rel =>
                  refine ⟨_, cnt9, Lb, hrg10, hsb10, hsl10, Lib.hid (fun z => ?_), HB9⟩
                  rw [HX.out z]
                  constructor
                  · rintro ⟨v, h1, h2, h3⟩; exact ⟨v, h1, fun h => h2 h.1, h3⟩
                  · rintro ⟨v, h1, h2, h3⟩
                    refine ⟨v, h1, fun h => h2 ⟨h, fun e => ?_⟩, h3⟩
                    exact hxa ((show v = x from congrArg Prod.fst e) ▸ h3)
                case measure => rw [hrg10.left_eq, HLE.out]; exact hlt
      · intro x w5 cnt5 hxL hl hrg5 hlt hg5 hs5 hen
        clear hs5
        have hq1 := hm1.out.2.2.2.2.1
        have hq2 := hm1.out.2.2.2.2.2
        have hout1 := hout.kept hg5 (fun e => by have := Option.some.inj e; omega)
        have hbw5 : Below W0.heap.size W0 w5 := HBW2.out.grown hg5 (by have := HBW2.out.size; have := hm1.out.2.2.2.1; omega) (fun q hq => by cases hq; have := hm1.out.2.2.2.1; omega)
        have hxn := HI.out.1 x hxL
        have hokx : okI x := HSI.out.1 x hxL
        obtain ⟨f1, f2, f3, f4, _⟩ := HAT.out _ hbw5
        obtain ⟨gs, rfl, f5⟩ := f4 x hxn
        have y1 : (x : Int) < ((leaves t).length : Int) := by omega
        have HB5 := Lib.hid hbw5
        have HLE := Lib.hid hrg.left_eq
        clear f4 f1 f2 hbw5 hrg hg5
        by_cases hc : bu (leaves t) x = bu s k
        · have hce : (((bu (leaves t) x).toNat : Int) == ((bu s k).toNat : Int)) = true := by rw [hc]; simp
          have HC := Lib.hid hc
          clear hc
          go_wp2_with (first
            | (at_mapUpdate; refine wpList_set_store rfl _ _ _ 51 rfl _ keyI Tryd.underlying51 ab La rfl hout1 x hokx rfl rfl ?_; intro w7 hout7 hg7; go_frame)
            | go_in)
          have hrg7 := hrg5.kept hg7 (fun e => by have := Option.some.inj e; omega) (fun e => by have := Option.some.inj e; omega)
          go_roundw
          case rel =>
            refine ⟨_, cnt5, _, hrg7, hout7, Lib.hid (fun z => ?_), Lib.hid (HB5.out.grown hg7 HB5.out.size (fun q hq => by cases hq; exact hm1.out.2.2.2.1))⟩
            rw [List.mem_append, HA.out z, List.mem_singleton]
            constructor
            · rintro (⟨h1, h2, h3⟩ | rfl)
              · exact ⟨h1, fun h => h2 h.1, h3⟩
              · exact ⟨hxL, fun h => h.2 rfl, HC.out⟩
            · rintro ⟨h1, h2, h3⟩
              by_cases e : z = x
              · exact .inr e
              · exact .inl ⟨h1, fun h => h2 ⟨h, e⟩, h3⟩
          case measure => rw [hrg7.left_eq, HLE.out]; exact hlt
        · have hce : (((bu (leaves t) x).toNat : Int) == ((bu s k).toNat : Int)) = false := by
            have : (bu (leaves t) x).toNat ≠ (bu s k).toNat := fun e => hc (UInt8.toNat_inj.1 e)
            simp; omega
          have HC := Lib.hid hc
          clear hc
          go_wp2_with fail
          go_roundw
          case rel =>
            refine ⟨_, cnt5, La, hrg5, hout1, Lib.hid (fun z => ?_), HB5⟩
            rw [HA.out z]
            constructor
            · rintro ⟨h1, h2, h3⟩; exact ⟨h1, fun h => h2 h.1, h3⟩
            · rintro ⟨h1, h2, h3⟩
              refine ⟨h1, fun h => h2 ⟨h, fun e => ?_⟩, h3⟩
              subst e; exact HC.out h3
          case measure => rw [hrg5.left_eq, HLE.out]; exact hlt
end Go.Proofs.YtchhbnnpannnhaaDoor
