/- The least machine takes what the machine takes, text by text; no two of its states take the same: in plain Lean. No condition. -/
import Derived.Test.YtfglajddibjnjaaLsA
import Derived.Test.YtfglajddibjnjaaLsN
namespace Go.Proofs.Ytfglajddibjnjaa
set_option linter.unusedVariables false

theorem Mc.leadB_all {M : Mc} : ∀ {s : List UInt8} {i : Nat}, M.leadB i s = if ∀ c ∈ s, c ∈ M.sg then some (M.lead i (s.map fun c => M.sg.idxOf c)) else none
  | [], i => by simp [Mc.leadB, Mc.lead]
  | c :: s, i => by
    unfold Mc.leadB
    by_cases hc : c ∈ M.sg
    · rw [if_pos hc, Mc.leadB_all (s := s)]
      by_cases hs : ∀ d ∈ s, d ∈ M.sg
      · rw [if_pos hs, if_pos (fun d hd => by rcases List.mem_cons.1 hd with rfl | hd; exact hc; exact hs d hd)]
        rfl
      · rw [if_neg hs, if_neg (fun h => hs fun d hd => h d (List.mem_cons_of_mem _ hd))]
    · rw [if_neg hc, if_neg (fun h => hc (h c List.mem_cons_self))]
theorem Mc.least_takesB {M : Mc} (hM : M.Ok) (s : List UInt8) : M.least.takesB s = M.takesB s := by
  have e : M.least.sg = M.sg := rfl
  unfold Mc.takesB
  rw [Mc.leadB_all, Mc.leadB_all, e]
  by_cases hs : ∀ c ∈ s, c ∈ M.sg
  · rw [if_pos hs, if_pos hs]
    refine Mc.least_takes0 hM fun c hc => ?_
    obtain ⟨d, hd, rfl⟩ := List.mem_map.1 hc
    exact List.idxOf_lt_length_iff.2 (hs d hd)
  · rw [if_neg hs, if_neg hs]
end Go.Proofs.Ytfglajddibjnjaa
