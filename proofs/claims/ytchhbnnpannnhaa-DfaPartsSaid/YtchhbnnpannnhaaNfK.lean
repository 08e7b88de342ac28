/- What nfa.Of hands back, read; the laws' closed fact. No condition. -/
import Derived.Test.YtchhbnnpannnhaaNfH
import Derived.Test.YtchhbnnpannnhaaNfJ
import Derived.Test.YtchhbnnpannnhaaNfS
import Derived.Test.YtchhbnnpannnhaaRegN
namespace Go.Proofs.Ytchhbnnpannnhaa
open Go.RowKit Go.Maps
set_option linter.unusedVariables false

theorem ints_of_own {w : World} {D : Nat} {v : Value} {L : List Nat} (h : w.ownsRow D 3 1 v L.length (L.map eI)) : ∃ A c, v = .slice A L.length c ∧ Ints w w.heap.size A L.length (zs L) := by
  rcases h.2 with ⟨rfl, hz⟩ | ⟨g, cap, cur, rfl, hg, hh, h1, h2, h3, h4⟩
  · have : L = [] := List.eq_nil_of_length_eq_zero hz
    subst this
    exact ⟨none, 0, rfl, Ints.nil_ _ _ _⟩
  · refine ⟨some ⟨g, 0, none⟩, cap, rfl, by simp, fun hp => ⟨g, 0, rfl, (Array.getElem?_eq_some_iff.1 hh).1, fun j hj => ?_⟩⟩
    have := World.ownsRow.cells h (g := g) rfl j (.int .i64 (gi (zs L) j)) (by rw [List.getElem?_map, List.getElem?_eq_getElem hj, gi_eq (by simpa using hj)]; simp)
    rw [Nat.zero_add]
    rwa [Addr.add_lit, Nat.zero_add] at this
/-- The rows of places that may follow. -/
def nxL (n : Nat) (t : Pt) : List (List Int) := (List.range n).map fun i => zs (nxN n t i)
theorem ro_nxL {n i : Nat} {t : Pt} (h : i < n) : ro (nxL n t) i = zs (nxN n t i) := by
  unfold ro nxL
  rw [List.getElem?_map, List.getElem?_range h]; rfl
theorem rows_of_rb {w : World} {D g n : Nat} {KC : List Value} {t : Pt} (h : RB w D g n KC (nxN n t)) : Rws w w.heap.size (some ⟨g, 0, none⟩) n (nxL n t) := by
  refine ⟨by simp [nxL], fun hp => ⟨g, 0, rfl, h.blk.lt, fun j hj => ?_⟩⟩
  obtain ⟨u, hu⟩ : ∃ u, KC[j]? = some u := ⟨_, List.getElem?_eq_getElem (by rw [h.len]; exact hj)⟩
  obtain ⟨A, c, rfl, hI⟩ := ints_of_own (h.own j u hu)
  refine ⟨A, _, c, by rw [Nat.zero_add, h.blk.cell]; exact hu, ?_⟩
  rw [ro_nxL hj]
  exact hI
/-- nfa.Of, read. -/
theorem ofR_any (s : List UInt8) (w : World) (h9 : s.length ≤ 9223372036854775807) :
    Calls Try.prog 7 #[S s] w fun e w' => ((parsE s ≠ 0 ∧ e = .returned (.tuple #[.slice none 0 0, .slice none 0 0, .slice none 0 0, errV (parsE s)])) ∨
      ∃ (t : Pt) (A1 A2 A3 : Option Addr) (c1 c2 c3 : Nat), parsE s = 0 ∧ s.length ≤ 12 ∧ par s = some t ∧
        e = .returned (.tuple #[.slice A1 (srt (leaves t).length (fsP t)).length c1, .slice A2 (srt (leaves t).length (lsP t)).length c2, .slice A3 (leaves t).length c3, .nilIface]) ∧
        Ints w' w'.heap.size A1 (srt (leaves t).length (fsP t)).length (zs (srt (leaves t).length (fsP t))) ∧ Ints w' w'.heap.size A2 (srt (leaves t).length (lsP t)).length (zs (srt (leaves t).length (lsP t))) ∧ Rws w' w'.heap.size A3 (leaves t).length (nxL (leaves t).length t)) ∧ Below w.heap.size w w' := by
  refine (nfaOf_any s w h9).mono ?_
  rintro e w' ⟨h | ⟨t, v1, v2, g, KC, h0, h12, ht, rfl, ho⟩, hb⟩
  · exact ⟨.inl h, hb⟩
  · obtain ⟨A1, c1, rfl, i1⟩ := ints_of_own ho.first
    obtain ⟨A2, c2, rfl, i2⟩ := ints_of_own ho.last
    exact ⟨.inr ⟨t, A1, A2, _, c1, c2, _, h0, h12, ht, rfl, i1, i2, rows_of_rb ho.next⟩, hb⟩
def tF : Pt := .str (.seq (.sgn 97 0) (.sgn 98 1))
theorem parF : par [40, 97, 98, 41, 42] = some tF := by rfl
def tG : Pt := .alt (.sgn 97 0) (.seq (.sgn 98 1) (.sgn 99 2))
theorem parG : par [97, 124, 98, 99] = some tG := by rfl
theorem matchG : matchV [97, 124, 98, 99] [98, 99] = true ∧ matchE [97, 124, 98, 99] [98, 99] = 0 := by
  have e : parsE [97, 124, 98, 99] = 0 := parsE_of (by decide) parG
  have h2 : matchE [97, 124, 98, 99] [98, 99] = 0 := by unfold matchE; rw [e]; rfl
  refine ⟨?_, h2⟩
  unfold matchV
  rw [h2, parG]
  decide +kernel
theorem int1 (w : World) (g : Nat) (x : Int) (h : w.heap[g]? = some (.cells #[.int .i64 x] 3)) : Ints w w.heap.size (some ⟨g, 0, none⟩) 1 [x] :=
  ⟨rfl, fun _ => ⟨g, 0, rfl, (Array.getElem?_eq_some_iff.1 h).1, fun j hj => by
    obtain rfl : j = 0 := by omega
    rw [cell_of_row w g _ _ _ (0, 0) h]; rfl⟩⟩
theorem rows2 (w : World) (g g1 g2 : Nat) (x y : Int) (h : w.heap[g]? = some (.cells #[.slice (some ⟨g1, 0, none⟩) 1 1, .slice (some ⟨g2, 0, none⟩) 1 1] 23)) (h1 : w.heap[g1]? = some (.cells #[.int .i64 x] 3)) (h2 : w.heap[g2]? = some (.cells #[.int .i64 y] 3)) :
    Rws w w.heap.size (some ⟨g, 0, none⟩) 2 [[x], [y]] := by
  refine ⟨rfl, fun _ => ⟨g, 0, rfl, (Array.getElem?_eq_some_iff.1 h).1, fun j hj => ?_⟩⟩
  rcases (by omega : j = 0 ∨ j = 1) with rfl | rfl
  · exact ⟨_, _, _, by rw [cell_of_row w g _ _ _ (0, 0) h]; rfl, int1 w g1 x h1⟩
  · exact ⟨_, _, _, by rw [cell_of_row w g _ _ _ (0, 0) h]; rfl, int1 w g2 y h2⟩
set_option maxRecDepth 100000 in
set_option maxHeartbeats 4000000 in
theorem nfaFact_any (w : World) : Calls Try.prog 6 #[] w fun e w' => e = .returned (.bool true) ∧ Below w.heap.size w w' := by
  have H1 : Hid (Calls Try.prog 7 #[.string ⟨#[40, 97, 98, 41, 42]⟩] w fun e w' => (∃ (A1 A2 A3 : Option Addr) (c1 c2 c3 : Nat), e = .returned (.tuple #[.slice A1 1 c1, .slice A2 1 c2, .slice A3 2 c3, .nilIface]) ∧
      Ints w' w'.heap.size A1 1 [0] ∧ Ints w' w'.heap.size A2 1 [1] ∧ Rws w' w'.heap.size A3 2 [[1], [0]]) ∧ Below w.heap.size w w') := Lib.hid (by
    have e0 : parsE [40, 97, 98, 41, 42] = 0 := parsE_of (by decide) parF
    refine (ofR_any [40, 97, 98, 41, 42] w (by decide)).mono ?_
    rintro e w' ⟨⟨hne, _⟩ | ⟨t, A1, A2, A3, c1, c2, c3, _, _, ht, rfl, i1, i2, i3⟩, hb⟩
    · exact absurd e0 hne
    · rw [parF] at ht
      obtain rfl := Option.some.inj ht
      have f1 : srt (leaves tF).length (fsP tF) = [0] := by decide +kernel
      have f2 : srt (leaves tF).length (lsP tF) = [1] := by decide +kernel
      have f3 : nxL (leaves tF).length tF = [[1], [0]] := by decide +kernel
      rw [f1] at i1 ⊢
      rw [f2] at i2 ⊢
      rw [f3] at i3
      exact ⟨⟨A1, A2, A3, c1, c2, c3, rfl, i1, i2, i3⟩, hb⟩)
  have H2 : Hid (∀ W, Calls Try.prog 8 #[.string ⟨#[97, 124, 98, 99]⟩, .string ⟨#[98, 99]⟩] W fun e w' => e = .returned (.tuple #[.bool true, .nilIface]) ∧ Below W.heap.size W w') := Lib.hid fun W => by
    have h := match_any [97, 124, 98, 99] [98, 99] W (by decide) (by decide)
    rw [matchG.1, matchG.2] at h
    exact h
  go_enter Try.func6, Try.ntmps6
  go_wp2_with fail
  refine H1.out.mono ?_
  rintro e w1 ⟨⟨A1, A2, A3, c1, c2, c3, rfl, i1, i2, i3⟩, hb1⟩
  have HI := Lib.hid (And.intro i1 (And.intro i2 i3))
  have HB1 := Lib.hid hb1
  clear i1 i2 i3 hb1
  go_wp2_with fail
  refine (H2.out _).mono ?_
  rintro e w2 ⟨rfl, hb2⟩
  have HB2 := Lib.hid (HB1.out.trans (hb2.mono HB1.out.size))
  have HI2 : Hid (Ints w2 w2.heap.size A1 1 [0] ∧ Ints w2 w2.heap.size A2 1 [1] ∧ Rws w2 w2.heap.size A3 2 [[1], [0]]) := Lib.hid ⟨(HI.out.1.below hb2).more hb2.size, (HI.out.2.1.below hb2).more hb2.size, (HI.out.2.2.below hb2).more hb2.size⟩
  clear hb2 HI HB1
  go_wp2_with fail
  have hba := (Below.refl w2.heap.size w2).alloc (Nat.le_refl _) (.cells #[.int .i64 0] 3)
  have HC1 := Lib.hid (smI_any A1 (some ⟨w2.heap.size, 0, none⟩) 1 1 c1 1 (w2.alloc (.cells #[.int .i64 0] 3)).heap.size [0] [0] (w2.alloc (.cells #[.int .i64 0] 3)) ((HI2.out.1.below hba).more hba.size) (int1 _ w2.heap.size 0 (heap_alloc_new w2 _)) (by omega))
  have HB3 := Lib.hid (HB2.out.trans (hba.mono HB2.out.size))
  have HI3 : Hid (Ints (w2.alloc (.cells #[.int .i64 0] 3)) (w2.alloc (.cells #[.int .i64 0] 3)).heap.size A2 1 [1] ∧ Rws (w2.alloc (.cells #[.int .i64 0] 3)) (w2.alloc (.cells #[.int .i64 0] 3)).heap.size A3 2 [[1], [0]]) := Lib.hid ⟨(HI2.out.2.1.below hba).more hba.size, (HI2.out.2.2.below hba).more hba.size⟩
  clear hba HI2
  refine HC1.out.mono ?_
  rw [show decide (([0] : List Int) = [0]) = true from rfl]
  generalize w2.alloc (.cells #[.int .i64 0] 3) = w3 at *
  rintro e w4 ⟨rfl, q, hq⟩
  have hb4 : Below w3.heap.size w3 w4 := by rw [hq]; exact below_drewN (Below.refl _ _) q
  have HB4 := Lib.hid (HB3.out.trans (hb4.mono HB3.out.size))
  have HI4 : Hid (Ints w4 w4.heap.size A2 1 [1] ∧ Rws w4 w4.heap.size A3 2 [[1], [0]]) := Lib.hid ⟨(HI3.out.1.below hb4).more hb4.size, (HI3.out.2.below hb4).more hb4.size⟩
  clear hq hb4 HI3 HB3 HC1
  go_wp2_with fail
  have hba := (Below.refl w4.heap.size w4).alloc (Nat.le_refl _) (.cells #[.int .i64 1] 3)
  have HC2 := Lib.hid (smI_any A2 (some ⟨w4.heap.size, 0, none⟩) 1 1 c2 1 (w4.alloc (.cells #[.int .i64 1] 3)).heap.size [1] [1] (w4.alloc (.cells #[.int .i64 1] 3)) ((HI4.out.1.below hba).more hba.size) (int1 _ w4.heap.size 1 (heap_alloc_new w4 _)) (by omega))
  have HB5 := Lib.hid (HB4.out.trans (hba.mono HB4.out.size))
  have HI5 : Hid (Rws (w4.alloc (.cells #[.int .i64 1] 3)) (w4.alloc (.cells #[.int .i64 1] 3)).heap.size A3 2 [[1], [0]]) := Lib.hid ((HI4.out.2.below hba).more hba.size)
  clear hba HI4
  refine HC2.out.mono ?_
  rw [show decide (([1] : List Int) = [1]) = true from rfl]
  generalize w4.alloc (.cells #[.int .i64 1] 3) = w5 at *
  rintro e w6 ⟨rfl, q, hq⟩
  have hb6 : Below w5.heap.size w5 w6 := by rw [hq]; exact below_drewN (Below.refl _ _) q
  have HB6 := Lib.hid (HB5.out.trans (hb6.mono HB5.out.size))
  have HI6 : Hid (Rws w6 w6.heap.size A3 2 [[1], [0]]) := Lib.hid ((HI5.out.below hb6).more hb6.size)
  clear hq hb6 HI5 HB5 HC2
  go_wp2_with fail
  have ha := (Below.refl w6.heap.size w6).alloc (Nat.le_refl _) (.cells #[.int .i64 1] 3)
  have hb := ha.alloc (by simp) (.cells #[.int .i64 0] 3)
  have hc := hb.alloc (by simp; omega) (.cells #[.slice (some ⟨w6.heap.size, 0, none⟩) 1 1, .slice (some ⟨w6.heap.size + 1, 0, none⟩) 1 1] 23)
  have r3 : Rws (((w6.alloc (.cells #[.int .i64 1] 3)).alloc (.cells #[.int .i64 0] 3)).alloc (.cells #[.slice (some ⟨w6.heap.size, 0, none⟩) 1 1, .slice (some ⟨w6.heap.size + 1, 0, none⟩) 1 1] 23)) (((w6.alloc (.cells #[.int .i64 1] 3)).alloc (.cells #[.int .i64 0] 3)).alloc (.cells #[.slice (some ⟨w6.heap.size, 0, none⟩) 1 1, .slice (some ⟨w6.heap.size + 1, 0, none⟩) 1 1] 23)).heap.size (some ⟨w6.heap.size + 1 + 1, 0, none⟩) 2 [[1], [0]] := by
    have e1 := heap_alloc_new w6 (.cells #[.int .i64 1] 3)
    have e2 := heap_alloc_new (w6.alloc (.cells #[.int .i64 1] 3)) (.cells #[.int .i64 0] 3)
    have e3 := heap_alloc_new ((w6.alloc (.cells #[.int .i64 1] 3)).alloc (.cells #[.int .i64 0] 3)) (.cells #[.slice (some ⟨w6.heap.size, 0, none⟩) 1 1, .slice (some ⟨w6.heap.size + 1, 0, none⟩) 1 1] 23)
    rw [World.size_alloc] at e2
    rw [World.size_alloc, World.size_alloc] at e3
    exact rows2 _ _ _ _ 1 0 e3 ((Below.heap_alloc _ _ _ (by simp; omega)).trans ((Below.heap_alloc _ _ _ (by simp)).trans e1)) ((Below.heap_alloc _ _ _ (by simp)).trans e2)
  have HC3 := Lib.hid (smR_any A3 (some ⟨w6.heap.size + 1 + 1, 0, none⟩) 2 2 c3 2 _ [[1], [0]] [[1], [0]] _ ((HI6.out.below hc).more hc.size) r3 (by omega) (fun i hi => by rcases (by omega : i = 0 ∨ i = 1) with rfl | rfl <;> decide))
  have HB7 := Lib.hid (HB6.out.trans (hc.mono HB6.out.size))
  clear ha hb hc r3 HI6
  refine HC3.out.mono ?_
  rw [show decide (([[1], [0]] : List (List Int)) = [[1], [0]]) = true from rfl]
  rintro e w8 ⟨rfl, q, hq⟩
  have HB8 : Hid (Below w.heap.size w w8) := Lib.hid (by rw [hq]; exact below_drewN HB7.out q)
  clear hq HB7 HC3
  go_wp2_with fail
  go_ret
  exact ⟨rfl, HB8.out⟩
end Go.Proofs.Ytchhbnnpannnhaa
