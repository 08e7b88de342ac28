/- Every place of a pattern lies on a way; what a text of one sign is. No condition. -/
import Derived.Test.YtchhbnnpannnhaaDoorNfM
import Derived.Test.YtchhbnnpannnhaaDoorNfI
import Derived.Test.YtchhbnnpannnhaaDoorNfJ
namespace Go.Proofs.YtchhbnnpannnhaaDoor
set_option linter.unusedVariables false

theorem mt_ex : ∀ t : Rt, ∃ v, mt t v = true
  | .emp => ⟨[], rfl⟩
  | .sgn c => ⟨[c], by simp [mt]⟩
  | .alt l r => by
    obtain ⟨v, h⟩ := mt_ex l
    exact ⟨v, by simp [mt, h]⟩
  | .seq l r => by
    obtain ⟨u, h⟩ := mt_ex l
    obtain ⟨v, h2⟩ := mt_ex r
    exact ⟨u ++ v, (mt_seq_iff _ _ _).2 ⟨u, v, rfl, h, h2⟩⟩
  | .str l => ⟨[], rfl⟩
theorem aft_ex : ∀ (t : Rt) (a i : Nat), a ≤ i → i < a + nR t → ∃ s, Aft t a i s
  | .emp, a, i, h, h2 => by simp [nR, lvR] at h2; omega
  | .sgn c, a, i, h, h2 => ⟨[], by simp [nR, lvR] at h2; omega, rfl⟩
  | .alt l r, a, i, h, h2 => by
    rw [nR_alt] at h2
    by_cases hi : i < a + nR l
    · obtain ⟨s, hs⟩ := aft_ex l a i h hi
      exact ⟨s, .inl hs⟩
    · obtain ⟨s, hs⟩ := aft_ex r (a + nR l) i (by omega) (by omega)
      exact ⟨s, .inr hs⟩
  | .seq l r, a, i, h, h2 => by
    rw [nR_seq] at h2
    by_cases hi : i < a + nR l
    · obtain ⟨s, hs⟩ := aft_ex l a i h hi
      obtain ⟨v, hv⟩ := mt_ex r
      exact ⟨s ++ v, .inl ⟨s, v, rfl, hs, hv⟩⟩
    · obtain ⟨s, hs⟩ := aft_ex r (a + nR l) i (by omega) (by omega)
      exact ⟨s, .inr hs⟩
  | .str l, a, i, h, h2 => by
    obtain ⟨s, hs⟩ := aft_ex l a i h h2
    exact ⟨s ++ [], s, [], rfl, hs, rfl⟩
theorem labAt (rt : Rt) : LabAt (fun i => (lvR rt)[i]?) rt 0 := fun i hi => by simp
theorem co_acc {s : List UInt8} {t : Pt} (h : par s = some t) {i : Nat} (hi : i < (leaves t).length) : i ∈ lsP t ∨ ∃ j, (i, j) ∈ prP t := by
  obtain ⟨rt, _, hr⟩ := rd_some h
  obtain ⟨q1, q2⟩ := par_leaves h
  obtain ⟨_, a2, a3⟩ := sets_rel hr q2
  obtain ⟨v, hv⟩ := aft_ex rt 0 i (by omega) (by rw [Nat.zero_add]; unfold nR; rw [lv_rel hr]; exact hi)
  cases v with
  | nil => exact .inl ((a2 i).2 ((last_law _ _ _).1 hv))
  | cons c v =>
    obtain ⟨j, hj, _⟩ := (next_law _ rt 0 (labAt rt) i c v).1 hv
    exact .inr ⟨j, (a3 i j).2 hj⟩
/-- What fits is what there is a way for: of the program's own sets. -/
theorem simP_mt {s u : List UInt8} {t : Pt} {rt : Rt} (h : par s = some t) (hr : Rel rt t) (hu : u ≠ []) : simP t u = mt rt u := by
  obtain ⟨q1, q2⟩ := par_leaves h
  obtain ⟨a1, a2, a3⟩ := sets_rel hr q2
  rw [Bool.eq_iff_iff]
  unfold simP
  rw [sim_go, glushkov (labAt rt) u hu, lv_rel hr]
  have e1 : (fun i j => decide ((i, j) ∈ prP t) = true) = fun i j => (i, j) ∈ prR rt 0 := by
    funext i j; exact propext (by rw [decide_eq_true_eq, a3])
  have e2 : (fun i => decide (i ∈ lsP t) = true) = fun i => i ∈ lsR rt 0 := by
    funext i; exact propext (by rw [decide_eq_true_eq, a2])
  rw [e1, e2]
  constructor
  · rintro ⟨i, hi, h⟩; exact ⟨i, (a1 i).1 (of_decide_eq_true hi), h⟩
  · rintro ⟨i, hi, h⟩; exact ⟨i, decide_eq_true ((a1 i).2 hi), h⟩
theorem sim_one (t : Pt) (c : UInt8) : simP t [c] = (srt (leaves t).length (fsP t)).any fun x => decide (bu (leaves t) x = c) && decide (x ∈ lsP t) := by
  unfold simP simN srt atN
  rw [List.any_filter]
  refine any_congr' fun x hx => ?_
  have hx := List.mem_range.1 hx
  rw [List.getElem?_eq_getElem hx, bu_eq hx, Bool.and_assoc]
  congr 1
end Go.Proofs.YtchhbnnpannnhaaDoor
