/- least.Any's round, in plain Lean: what was met, and the two rows that tell of it. No condition. -/
import Derived.Test.YtfglajddibjnjaaDoorLsA
namespace Go.Proofs.YtfglajddibjnjaaDoor
set_option linter.unusedVariables false

/-- What was met: no state twice, all of them the machine's. -/
structure Vs (M : Mc) (a : Nat) (Q : List (Nat × List UInt8)) (S : List Nat) : Prop where
  nd : S.Nodup
  lt : ∀ s ∈ S, s < M.n
  qs : ∀ q ∈ Q, q.1 ∈ S
  len : a + Q.length = S.length
  ln : ∀ q ∈ Q, q.2.length < S.length
theorem Vs.start {M : Mc} (h : M.Ok) : Vs M 0 [(0, [])] [0] := ⟨by simp, fun s hs => by rw [List.mem_singleton.1 hs]; exact h.pos, fun q hq => by rw [List.mem_singleton.1 hq]; simp, rfl, fun q hq => by rw [List.mem_singleton.1 hq]; simp⟩
theorem Vs.few {M : Mc} {a : Nat} {Q : List (Nat × List UInt8)} {S : List Nat} (h : Vs M a Q S) : a + Q.length ≤ M.n := by rw [h.len]; exact nodup_le h.nd h.lt
theorem Vs.ln_n {M : Mc} {a : Nat} {Q : List (Nat × List UInt8)} {S : List Nat} (h : Vs M a Q S) {q : Nat × List UInt8} (hq : q ∈ Q) : q.2.length < M.n := Nat.lt_of_lt_of_le (h.ln q hq) (nodup_le h.nd h.lt)
theorem Vs.add {M : Mc} {a t : Nat} {y : List UInt8} {Q : List (Nat × List UInt8)} {S : List Nat} (h : Vs M a Q S) (ht : t < M.n) (hn : t ∉ S) (hy : y.length ≤ S.length) : Vs M a (Q ++ [(t, y)]) (S ++ [t]) := by
  refine ⟨?_, fun s hs => ?_, fun q hq => ?_, by rw [List.length_append, List.length_append, ← h.len]; rfl, fun q hq => ?_⟩
  · rw [List.nodup_append]
    exact ⟨h.nd, by simp, fun x hx z hz e => hn (by rw [List.mem_singleton.1 hz] at e; rw [← e]; exact hx)⟩
  · rcases List.mem_append.1 hs with hs | hs
    · exact h.lt s hs
    · rw [List.mem_singleton.1 hs]; exact ht
  · rcases List.mem_append.1 hq with hq | hq
    · exact List.mem_append_left _ (h.qs q hq)
    · rw [List.mem_singleton.1 hq]; exact List.mem_append_right _ (List.mem_singleton.2 rfl)
  · rw [List.length_append]
    rcases List.mem_append.1 hq with hq | hq
    · have := h.ln q hq; omega
    · rw [List.mem_singleton.1 hq]; show y.length < _; simp; omega
theorem Vs.pop {M : Mc} {a : Nat} {q : Nat × List UInt8} {Q : List (Nat × List UInt8)} {S : List Nat} (h : Vs M a (q :: Q) S) : Vs M (a + 1) Q S :=
  ⟨h.nd, h.lt, fun p hp => h.qs p (List.mem_cons_of_mem _ hp), by have := h.len; rw [List.length_cons] at this; omega, fun p hp => h.ln p (List.mem_cons_of_mem _ hp)⟩
/-- The two rows: the texts of what is still to be looked at, and what was met. -/
structure Tx (M : Mc) (T : List (List UInt8)) (E : List Bool) (Q : List (Nat × List UInt8)) (S : List Nat) : Prop where
  tl : T.length = M.n
  el : E.length = M.n
  at_ : ∀ q ∈ Q, T[q.1]? = some q.2
  se : ∀ i, i < M.n → (bo E i = true ↔ i ∈ S)
theorem bo_set_self {l : List Bool} {k : Nat} {b : Bool} (h : k < l.length) : bo (l.set k b) k = b := by unfold bo; rw [List.getElem?_set_self h]; rfl
theorem bo_set_ne {l : List Bool} {k i : Nat} {b : Bool} (h : k ≠ i) : bo (l.set k b) i = bo l i := by unfold bo; rw [List.getElem?_set_ne h]
theorem Tx.start {M : Mc} (h : M.Ok) : Tx M (List.replicate M.n []) ((List.replicate M.n false).set 0 true) [(0, [])] [0] := by
  refine ⟨by simp, by simp, fun q hq => ?_, fun i hi => ?_⟩
  · rw [List.mem_singleton.1 hq]
    rw [List.getElem?_replicate, if_pos h.pos]
  · by_cases h0 : i = 0
    · subst h0
      rw [bo_set_self (by simp; exact h.pos)]
      simp
    · rw [bo_set_ne (fun e => h0 e.symm)]
      unfold bo
      rw [List.getElem?_replicate, if_pos hi]
      simp [h0]
theorem Tx.pop {M : Mc} {T : List (List UInt8)} {E : List Bool} {q : Nat × List UInt8} {Q : List (Nat × List UInt8)} {S : List Nat} (h : Tx M T E (q :: Q) S) : Tx M T E Q S := ⟨h.tl, h.el, fun p hp => h.at_ p (List.mem_cons_of_mem _ hp), h.se⟩
theorem Tx.add {M : Mc} {a t : Nat} {y : List UInt8} {T : List (List UInt8)} {E : List Bool} {Q : List (Nat × List UInt8)} {S : List Nat} (h : Tx M T E Q S) (hv : Vs M a Q S) (ht : t < M.n) (hn : t ∉ S) : Tx M (T.set t y) (E.set t true) (Q ++ [(t, y)]) (S ++ [t]) := by
  refine ⟨by rw [List.length_set]; exact h.tl, by rw [List.length_set]; exact h.el, fun q hq => ?_, fun i hi => ?_⟩
  · rcases List.mem_append.1 hq with hq | hq
    · rw [List.getElem?_set_ne (fun e => hn (by rw [e]; exact hv.qs q hq))]
      exact h.at_ q hq
    · rw [List.mem_singleton.1 hq]
      exact List.getElem?_set_self (by rw [h.tl]; exact ht)
  · by_cases e : i = t
    · subst e
      rw [bo_set_self (by rw [h.el]; exact hi)]
      simp
    · rw [bo_set_ne (fun x => e x.symm), h.se i hi]
      simp [e]
/-- One sign more. -/
theorem pushG_in {M : Mc} {i c : Nat} {x : List UInt8} {Q : List (Nat × List UInt8)} {S : List Nat} (h : M.st i c ∈ (pushG M i x Q S c).2) : pushG M i x Q S (c + 1) = pushG M i x Q S c := by
  rw [show pushG M i x Q S (c + 1) = if M.st i c ∈ (pushG M i x Q S c).2 then pushG M i x Q S c else ((pushG M i x Q S c).1 ++ [(M.st i c, x ++ [bu M.sg c])], (pushG M i x Q S c).2 ++ [M.st i c]) from rfl, if_pos h]
theorem pushG_out {M : Mc} {i c : Nat} {x : List UInt8} {Q : List (Nat × List UInt8)} {S : List Nat} (h : M.st i c ∉ (pushG M i x Q S c).2) : pushG M i x Q S (c + 1) = ((pushG M i x Q S c).1 ++ [(M.st i c, x ++ [bu M.sg c])], (pushG M i x Q S c).2 ++ [M.st i c]) := by
  rw [show pushG M i x Q S (c + 1) = if M.st i c ∈ (pushG M i x Q S c).2 then pushG M i x Q S c else ((pushG M i x Q S c).1 ++ [(M.st i c, x ++ [bu M.sg c])], (pushG M i x Q S c).2 ++ [M.st i c]) from rfl, if_neg h]
/-- What Any answers. -/
theorem Run.found {M : Mc} (hM : M.Ok) {r : Option (List UInt8)} (h : Run M [(0, [])] [0] r) : Found M r := h.says hM (Shy.start M) ⟨(0, []), by simp, rfl⟩
end Go.Proofs.YtfglajddibjnjaaDoor
