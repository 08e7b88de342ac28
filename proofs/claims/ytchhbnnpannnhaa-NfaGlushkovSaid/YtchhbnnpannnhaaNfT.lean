/- NfaGlushkov's plain laws: a round of the law's own walk over the places. No condition. -/
import Derived.Test.YtchhbnnpannnhaaNfL
namespace Go.Proofs.Ytchhbnnpannnhaa
open Go.RowKit Go.Maps
set_option linter.unusedVariables false

/-- Where the places of a list whose sign is c lead. -/
def toT (t : Pt) (c : UInt8) (L : List Nat) : List Nat := (L.filter fun x => decide (bu (leaves t) x = c)).flatMap (nxN (leaves t).length t)
theorem toT_step {t : Pt} {c : UInt8} {L : List Nat} {i x : Nat} (h : L[i]? = some x) : toT t c (L.take (i + 1)) = toT t c (L.take i) ++ (if bu (leaves t) x = c then nxN (leaves t).length t x else []) := by
  unfold toT
  rw [List.take_add_one, h, List.filter_append, List.flatMap_append]
  congr 1
  by_cases e : bu (leaves t) x = c
  · simp [e]
  · simp [e]
theorem toT_len {t : Pt} {c : UInt8} : ∀ L : List Nat, (toT t c L).length ≤ L.length * (leaves t).length
  | [] => by simp [toT]
  | x :: L => by
    have ih := toT_len (t := t) (c := c) L
    have h1 : (nxN (leaves t).length t x).length ≤ (leaves t).length := by unfold nxN; exact Nat.le_trans (List.length_filter_le _ _) (by simp)
    unfold toT at *
    rw [List.length_cons, Nat.add_mul]
    by_cases e : bu (leaves t) x = c
    · rw [List.filter_cons_of_pos (by simpa using e), List.flatMap_cons, List.length_append]; omega
    · rw [List.filter_cons_of_neg (by simpa using e)]; omega
theorem mem_toT {t : Pt} {c : UInt8} {L : List Nat} {y : Nat} : y ∈ toT t c L ↔ ∃ x ∈ L, bu (leaves t) x = c ∧ y < (leaves t).length ∧ (x, y) ∈ prP t := by
  unfold toT
  rw [List.mem_flatMap]
  constructor
  · rintro ⟨x, hx, hy⟩
    rw [List.mem_filter] at hx
    unfold nxN at hy
    rw [List.mem_filter, List.mem_range] at hy
    exact ⟨x, hx.1, of_decide_eq_true hx.2, hy.1, of_decide_eq_true hy.2⟩
  · rintro ⟨x, hx, e, hy, hp⟩
    refine ⟨x, List.mem_filter.2 ⟨hx, decide_eq_true e⟩, ?_⟩
    unfold nxN
    exact List.mem_filter.2 ⟨List.mem_range.2 hy, decide_eq_true hp⟩
abbrev simT (t : Pt) (L : List Nat) (s : List UInt8) : Bool := simN (leaves t) (fun i j => decide ((i, j) ∈ prP t)) (fun i => decide (i ∈ lsP t)) (fun i => decide (i ∈ L)) s
theorem simT_next {t : Pt} (hs : Sm (leaves t).length t) {L : List Nat} {u : List UInt8} {k : Nat} (hk : k + 1 < u.length) (hL : ∀ x ∈ L, x < (leaves t).length) :
    simT t L (u.drop k) = simT t (srt (leaves t).length (toT t (bu u k) L)) (u.drop (k + 1)) := by
  refine sim_next hk hL (La := L.filter fun x => decide (bu (leaves t) x = bu u k)) (fun x => by rw [List.mem_filter, decide_eq_true_eq]) fun y => ?_
  rw [mem_srt, mem_toT]
  constructor
  · rintro ⟨_, x, hx, e, _, hp⟩
    exact ⟨x, decide_eq_true hp, List.mem_filter.2 ⟨hx, decide_eq_true e⟩⟩
  · rintro ⟨x, hp, hx⟩
    rw [List.mem_filter, decide_eq_true_eq] at hx
    have hp := of_decide_eq_true hp
    have hy := ((sm_fs hs).2.2 x y hp).2
    exact ⟨hy, x, hx.1, hx.2, hy, hp⟩
theorem simT_last {t : Pt} {L : List Nat} {u : List UInt8} {k : Nat} (hk : k + 1 = u.length) (hL : ∀ x ∈ L, x < (leaves t).length) : simT t L (u.drop k) = L.any (endQ t (bu u k)) := by
  rw [Bool.eq_iff_iff, sim_last hk hL (La := L.filter fun x => decide (bu (leaves t) x = bu u k)) (fun x => by rw [List.mem_filter, decide_eq_true_eq]), List.any_eq_true]
  unfold endQ
  constructor
  · rintro ⟨x, hx, h⟩
    rw [List.mem_filter] at hx
    exact ⟨x, hx.1, by rw [hx.2, h]; rfl⟩
  · rintro ⟨x, hx, h⟩
    rw [Bool.and_eq_true] at h
    exact ⟨x, List.mem_filter.2 ⟨hx, h.1⟩, h.2⟩
theorem simT_srt {t : Pt} (hs : Sm (leaves t).length t) (s : List UInt8) : simT t (srt (leaves t).length (fsP t)) s = simP t s := by
  refine simN_congr s fun i => ?_
  rw [Bool.eq_iff_iff, decide_eq_true_eq, decide_eq_true_eq, mem_srt]
  exact ⟨fun h => h.2, fun h => ⟨(sm_fs hs).1 i h, h⟩⟩
theorem srt_len (n : Nat) (L : List Nat) : (srt n L).length ≤ n := by unfold srt; exact Nat.le_trans (List.length_filter_le _ _) (by simp)
end Go.Proofs.Ytchhbnnpannnhaa
