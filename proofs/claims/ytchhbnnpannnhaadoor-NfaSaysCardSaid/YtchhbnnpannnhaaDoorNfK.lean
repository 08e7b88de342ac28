/- What nfa.Of hands back, read; the laws' closed fact. No condition. -/
import Derived.Test.YtchhbnnpannnhaaDoorNfH
import Derived.Test.YtchhbnnpannnhaaDoorNfJ
import Derived.Test.YtchhbnnpannnhaaDoorNfS
import Derived.Test.YtchhbnnpannnhaaDoorRegN
namespace Go.Proofs.YtchhbnnpannnhaaDoor
open Go.RowKit Go.Maps
set_option linter.unusedVariables false

theorem ints_of_own {w : World} {D : Nat} {v : Value} {L : List Nat} (h : w.ownsRow D 3 1 v L.length (L.map eI)) : ∃ A c, v = .slice A L.length c ∧ Ints w w.heap.size A L.length (zs L) := by
  rcases h.2 with ⟨rfl, hz⟩ | ⟨g, cap, cur, rfl, hg, hh, h1, h2, h3, h4⟩
  · have : L = [] := List.eq_nil_of_length_eq_zero hz
    subst this
    exact ⟨none, 0, rfl, Ints.nil_ _ _ _⟩
  · refine ⟨some ⟨g, 0, none⟩, cap, rfl, by simp, fun hp => ⟨g, 0, rfl, (Array.getElem?_eq_some_iff.1 hh).1, fun j hj => ?_⟩⟩
    have := World.ownsRow.cells h (g := g) rfl j (.int .i64 (gi (zs L) j)) (by rw [List.getElem?_map, List.getElem?_eq_getElem hj, gi_eq (by simpa using hj)]; simp)
    rw [Nat.zero_add]
    rwa [Addr.add_lit, Nat.zero_add] at this
/-- The rows of places that may follow. -/
def nxL (n : Nat) (t : Pt) : List (List Int) := (List.range n).map fun i => zs (nxN n t i)
theorem ro_nxL {n i : Nat} {t : Pt} (h : i < n) : ro (nxL n t) i = zs (nxN n t i) := by
  unfold ro nxL
  rw [List.getElem?_map, List.getElem?_range h]; rfl
theorem rows_of_rb {w : World} {D g n : Nat} {KC : List Value} {t : Pt} (h : RB w D g n KC (nxN n t)) : Rws w w.heap.size (some ⟨g, 0, none⟩) n (nxL n t) := by
  refine ⟨by simp [nxL], fun hp => ⟨g, 0, rfl, h.blk.lt, fun j hj => ?_⟩⟩
  obtain ⟨u, hu⟩ : ∃ u, KC[j]? = some u := ⟨_, List.getElem?_eq_getElem (by rw [h.len]; exact hj)⟩
  obtain ⟨A, c, rfl, hI⟩ := ints_of_own (h.own j u hu)
  refine ⟨A, _, c, by rw [Nat.zero_add, h.blk.cell]; exact hu, ?_⟩
  rw [ro_nxL hj]
  exact hI
/-- nfa.Of, read. -/
theorem ofR_any (s : List UInt8) (w : World) (h9 : s.length ≤ 9223372036854775807) :
    Calls Tryd.prog 6 #[S s] w fun e w' => ((parsE s ≠ 0 ∧ e = .returned (.tuple #[.slice none 0 0, .slice none 0 0, .slice none 0 0, errV (parsE s)])) ∨
      ∃ (t : Pt) (A1 A2 A3 : Option Addr) (c1 c2 c3 : Nat), parsE s = 0 ∧ s.length ≤ 12 ∧ par s = some t ∧
        e = .returned (.tuple #[.slice A1 (srt (leaves t).length (fsP t)).length c1, .slice A2 (srt (leaves t).length (lsP t)).length c2, .slice A3 (leaves t).length c3, .nilIface]) ∧
        Ints w' w'.heap.size A1 (srt (leaves t).length (fsP t)).length (zs (srt (leaves t).length (fsP t))) ∧ Ints w' w'.heap.size A2 (srt (leaves t).length (lsP t)).length (zs (srt (leaves t).length (lsP t))) ∧ Rws w' w'.heap.size A3 (leaves t).length (nxL (leaves t).length t)) ∧ Below w.heap.size w w' := by
  refine (nfaOf_any s w h9).mono ?_
  rintro e w' ⟨h | ⟨t, v1, v2, g, KC, h0, h12, ht, rfl, ho⟩, hb⟩
  · exact ⟨.inl h, hb⟩
  · obtain ⟨A1, c1, rfl, i1⟩ := ints_of_own ho.first
    obtain ⟨A2, c2, rfl, i2⟩ := ints_of_own ho.last
    exact ⟨.inr ⟨t, A1, A2, _, c1, c2, _, h0, h12, ht, rfl, i1, i2, rows_of_rb ho.next⟩, hb⟩
def tF : Pt := .str (.seq (.sgn 97 0) (.sgn 98 1))
theorem parF : par [40, 97, 98, 41, 42] = some tF := by rfl
def tG : Pt := .alt (.sgn 97 0) (.seq (.sgn 98 1) (.sgn 99 2))
theorem parG : par [97, 124, 98, 99] = some tG := by rfl
theorem matchG : matchV [97, 124, 98, 99] [98, 99] = true ∧ matchE [97, 124, 98, 99] [98, 99] = 0 := by
  have e : parsE [97, 124, 98, 99] = 0 := parsE_of (by decide) parG
  have h2 : matchE [97, 124, 98, 99] [98, 99] = 0 := by unfold matchE; rw [e]; rfl
  refine ⟨?_, h2⟩
  unfold matchV
  rw [h2, parG]
  decide +kernel
theorem int1 (w : World) (g : Nat) (x : Int) (h : w.heap[g]? = some (.cells #[.int .i64 x] 3)) : Ints w w.heap.size (some ⟨g, 0, none⟩) 1 [x] :=
  ⟨rfl, fun _ => ⟨g, 0, rfl, (Array.getElem?_eq_some_iff.1 h).1, fun j hj => by
    obtain rfl : j = 0 := by omega
    rw [cell_of_row w g _ _ _ (0, 0) h]; rfl⟩⟩
theorem rows2 (w : World) (g g1 g2 : Nat) (x y : Int) (h : w.heap[g]? = some (.cells #[.slice (some ⟨g1, 0, none⟩) 1 1, .slice (some ⟨g2, 0, none⟩) 1 1] 27)) (h1 : w.heap[g1]? = some (.cells #[.int .i64 x] 3)) (h2 : w.heap[g2]? = some (.cells #[.int .i64 y] 3)) :
    Rws w w.heap.size (some ⟨g, 0, none⟩) 2 [[x], [y]] := by
  refine ⟨rfl, fun _ => ⟨g, 0, rfl, (Array.getElem?_eq_some_iff.1 h).1, fun j hj => ?_⟩⟩
  rcases (by omega : j = 0 ∨ j = 1) with rfl | rfl
  · exact ⟨_, _, _, by rw [cell_of_row w g _ _ _ (0, 0) h]; rfl, int1 w g1 x h1⟩
  · exact ⟨_, _, _, by rw [cell_of_row w g _ _ _ (0, 0) h]; rfl, int1 w g2 y h2⟩
end Go.Proofs.YtchhbnnpannnhaaDoor
