/- A square of truths in memory, row by row, and its changes. No condition. -/
import Derived.Test.YtfglajddibjnjaaDoorLsD
import Derived.Test.YtfglajddibjnjaaDoorLsT
namespace Go.Proofs.YtfglajddibjnjaaDoor
open Go.RowKit IntWalk
set_option linter.unusedSimpArgs false
set_option linter.unusedVariables false

/-- What tells states apart at once. -/
def rowT (M : Mc) (i : Nat) : List Bool := (List.range M.n).map fun k => bo M.tk i != bo M.tk k
def tab0 (M : Mc) : List (List Bool) := (List.range M.n).map (rowT M)
theorem bo_range {f : Nat → Bool} {n k : Nat} (h : k < n) : bo ((List.range n).map f) k = f k := by
  unfold bo; rw [List.getElem?_map, List.getElem?_range h]; rfl
theorem br_range {f : Nat → List Bool} {n k : Nat} (h : k < n) : br ((List.range n).map f) k = f k := by
  unfold br; rw [List.getElem?_map, List.getElem?_range h]; rfl
theorem bb_tab0 {M : Mc} {i k : Nat} (hi : i < M.n) (hk : k < M.n) : bb (tab0 M) i k = (bo M.tk i != bo M.tk k) := by
  unfold bb tab0
  rw [br_range hi]
  exact bo_range hk
theorem tl0 (M : Mc) : Tl M (tab0 M) := by
  refine ⟨⟨by unfold tab0; simp, fun i hi => by unfold tab0; rw [br_range hi]; unfold rowT; simp⟩, fun i k hi hk hb he => ?_, fun i k hi hk hne => ?_⟩
  · rw [bb_tab0 hi hk, he.tk] at hb
    simp at hb
  · rw [bb_tab0 hi hk]
    simpa using hne
theorem ext_bo {l l' : List Bool} (h : l.length = l'.length) (he : ∀ k, k < l.length → bo l k = bo l' k) : l = l' := by
  refine List.ext_getElem h fun k h1 h2 => ?_
  have := he k h1
  rwa [bo_eq h1, bo_eq h2] at this

/-- Rows of truths that are made one by one. -/
structure TP (wo : World) (D n i : Nat) (v : Value) (G : Nat → Nat) (A : List (List Bool)) (w : World) : Prop where
  own : w.ownsRow D 23 1 v ((List.range i).map fun j => Value.slice (some ⟨G j, 0, none⟩) n n).length ((List.range i).map fun j => Value.slice (some ⟨G j, 0, none⟩) n n)
  row : ∀ j, j < i → Blk w (G j) 4 ((br A j).map Value.bool)
  inj : ∀ a b, a < i → b < i → G a = G b → a = b
  big : ∀ j, j < i → D ≤ G j
  low : Below D wo w
section
variable {wo : World} {D n i : Nat} {v : Value} {G : Nat → Nat} {A : List (List Bool)} {w w' : World}
theorem TP.start (w : World) (D n : Nat) (A : List (List Bool)) : TP w D n 0 (.slice none 0 0) (fun _ => 0) A w :=
  ⟨World.ownsRow_nil _ _ _ _, fun j hj => absurd hj (by omega), fun a b ha => absurd ha (by omega), fun j hj => absurd hj (by omega), Below.refl _ _⟩
/-- Another block turns. -/
theorem TP.other {row : Option Nat} (h : TP wo D n i v G A w) (hg : w.grownBy w' row) (hD : D ≤ w.heap.size) (hr : ∀ k, row = some k → D ≤ k ∧ v.ownBlock ≠ some k ∧ ∀ j, j < i → G j ≠ k) : TP wo D n i v G A w' :=
  ⟨own_kept h.own hg fun k hk e => (hr k e).2.1 hk, fun j hj => (h.row j hj).grown hg (fun e => (hr _ e.symm).2.2 j hj rfl), h.inj, h.big, h.low.grown hg hD fun k hk => (hr k hk).1⟩
theorem TP.drewN (h : TP wo D n i v G A w) (q : Nat) : TP wo D n i v G A (w.drewN q) := ⟨h.own, h.row, h.inj, h.big, below_drewN h.low q⟩
/-- One row more. -/
theorem TP.snoc {v' : Value} {gR : Nat} (h : TP wo D n i v G A w) (hb : Blk w gR 4 ((br A i).map Value.bool)) (hn : ∀ j, j < i → G j ≠ gR) (hR : D ≤ gR) (hD : D ≤ w.heap.size)
    (hg : w.grownBy w' v.ownBlock) (ho : w'.ownsRow D 23 1 v' (((List.range i).map fun j => Value.slice (some ⟨G j, 0, none⟩) n n) ++ [Value.slice (some ⟨gR, 0, none⟩) n n]).length (((List.range i).map fun j => Value.slice (some ⟨G j, 0, none⟩) n n) ++ [Value.slice (some ⟨gR, 0, none⟩) n n])) :
    TP wo D n (i + 1) v' (fun j => if j = i then gR else G j) A w' := by
  have hty : ∀ g cs, Blk w g 4 cs → some g ≠ v.ownBlock := fun g cs hc e => by
    obtain ⟨cs', hc'⟩ := own_typed h.own e.symm
    exact ty_ne hc hc' (by decide)
  have e : ((List.range (i + 1)).map fun j => Value.slice (some ⟨if j = i then gR else G j, 0, none⟩) n n) = ((List.range i).map fun j => Value.slice (some ⟨G j, 0, none⟩) n n) ++ [Value.slice (some ⟨gR, 0, none⟩) n n] := by
    rw [List.range_succ, List.map_append]
    congr 1
    · refine List.map_congr_left fun j hj => ?_
      rw [if_neg (by have := List.mem_range.1 hj; omega)]
    · simp
  refine ⟨by rw [e]; exact ho, fun j hj => ?_, fun a b ha hb' hab => ?_, fun j hj => ?_, h.low.grown hg hD fun k hk => own_lt h.own hk⟩
  · by_cases hji : j = i
    · subst hji; rw [if_pos rfl]; exact hb.grown hg (hty _ _ hb)
    · rw [if_neg hji]; exact (h.row j (by omega)).grown hg (hty _ _ (h.row j (by omega)))
  · by_cases hai : a = i <;> by_cases hbi : b = i
    · omega
    · rw [if_pos hai, if_neg hbi] at hab; exact absurd hab.symm (hn b (by omega))
    · rw [if_neg hai, if_pos hbi] at hab; exact absurd hab (hn a (by omega))
    · rw [if_neg hai, if_neg hbi] at hab; exact h.inj a b (by omega) (by omega) hab
  · by_cases hji : j = i
    · rw [if_pos hji]; exact hR
    · rw [if_neg hji]; exact h.big j (by omega)
end
/-- The whole square. -/
structure TB (wo : World) (D n g : Nat) (G : Nat → Nat) (A : List (List Bool)) (w : World) : Prop where
  top : ∃ cur, w.heap[g]? = some (.cells cur 23 (0, 0)) ∧ ∀ j, j < n → cur[j]? = some (Value.slice (some ⟨G j, 0, none⟩) n n)
  row : ∀ j, j < n → Blk w (G j) 4 ((br A j).map Value.bool)
  inj : ∀ a b, a < n → b < n → G a = G b → a = b
  big : ∀ j, j < n → D ≤ G j
  bg : D ≤ g
  low : Below D wo w
  dim : Dim n A
section
variable {wo : World} {D n g : Nat} {v : Value} {G : Nat → Nat} {A : List (List Bool)} {w w' : World}
theorem TP.fin (h : TP wo D n n v G A w) (hn : 0 < n) (hd : Dim n A) : ∃ g cap, v = .slice (some ⟨g, 0, none⟩) n cap ∧ TB wo D n g G A w := by
  have hl : ((List.range n).map fun j => Value.slice (some ⟨G j, 0, none⟩) n n).length = n := by simp
  obtain ⟨h1, h2⟩ := h.own
  rw [hl] at h2
  rcases h2 with ⟨_, h0⟩ | ⟨g, cap, cur, e, hg, hh, _, _, _, htake⟩
  · omega
  · refine ⟨g, cap, e, ⟨cur, hh, fun j hj => ?_⟩, h.row, h.inj, h.big, hg, h.low, hd⟩
    have : (cur.toList.take (n * 1))[j]? = some (Value.slice (some ⟨G j, 0, none⟩) n n) := by
      rw [htake, List.getElem?_map, List.getElem?_range hj]; rfl
    rw [List.getElem?_take_of_lt (by omega)] at this
    simpa using this
theorem TB.cell_top (h : TB wo D n g G A w) {i : Nat} (hi : i < n) : w.cell? ⟨g, i, none⟩ = some (.slice (some ⟨G i, 0, none⟩) n n) := by
  obtain ⟨cur, hh, hc⟩ := h.top
  rw [cell_of_row w g i cur 23 (0, 0) hh]
  exact hc i hi
theorem TB.cell_at (h : TB wo D n g G A w) {i k : Nat} (hi : i < n) (hk : k < n) : w.cell? ⟨G i, k, none⟩ = some (.bool (bb A i k)) := by
  rw [(h.row i hi).cell k, List.getElem?_map]
  unfold bb
  have hl : k < (br A i).length := by rw [h.dim.row i hi]; exact hk
  rw [List.getElem?_eq_getElem hl, bo_eq hl]; rfl
theorem TB.drewN (h : TB wo D n g G A w) (q : Nat) : TB wo D n g G A (w.drewN q) := ⟨h.top, h.row, h.inj, h.big, h.bg, below_drewN h.low q, h.dim⟩
theorem TB.set (h : TB wo D n g G A w) {i k : Nat} (hi : i < n) (hk : k < n) : TB wo D n g G (setB A i k) (w.setCell ⟨G i, k, none⟩ (.bool true)) := by
  obtain ⟨cur, hh, hc⟩ := h.top
  have hne : g ≠ G i := fun e => by
    have := h.row i hi
    rw [← e] at this
    exact ty_ne hh this (by decide)
  refine ⟨⟨cur, (Below.heap_setCell w ⟨G i, k, none⟩ _ g hne).trans hh, hc⟩, fun j hj => ?_, h.inj, h.big, h.bg, h.low.setCell (p := ⟨G i, k, none⟩) (h.big i hi) _, h.dim.set hi⟩
  rw [br_set (by rw [h.dim.len]; exact hi)]
  by_cases hji : j = i
  · subst hji
    rw [if_pos rfl, List.map_set]
    exact (h.row j hj).set_ k (.bool true)
  · rw [if_neg hji]
    exact (h.row j hj).far (p := ⟨G i, k, none⟩) (fun e => hji (h.inj j i hj hi e)) _
theorem TB.below (h : TB wo D n g G A w) (hb : Below w.heap.size w w') (hD : D ≤ w.heap.size) : TB wo D n g G A w' := by
  obtain ⟨cur, hh, hc⟩ := h.top
  exact ⟨⟨cur, (hb.block g (Array.getElem?_eq_some_iff.1 hh).1).trans hh, hc⟩, fun j hj => (h.row j hj).below hb (h.row j hj).lt, h.inj, h.big, h.bg, h.low.trans (hb.mono hD), h.dim⟩
end
end Go.Proofs.YtfglajddibjnjaaDoor
