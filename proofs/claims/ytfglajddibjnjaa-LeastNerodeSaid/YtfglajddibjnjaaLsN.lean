/- A machine that begins at another of its states; two states of the least machine (Myhill, Nerode), in plain Lean. No condition. -/
import Derived.Test.YtfglajddibjnjaaLsP
namespace Go.Proofs.Ytfglajddibjnjaa
set_option linter.unusedVariables false

/-- A state, if one and the first one change places. -/
def sw (a i : Nat) : Nat := if i = 0 then a else if i = a then 0 else i
theorem sw_sw (a i : Nat) : sw a (sw a i) = i := by
  unfold sw
  by_cases h : i = 0
  · subst h
    rw [if_pos rfl]
    by_cases ha : a = 0
    · subst ha; rfl
    · rw [if_neg ha, if_pos rfl]
  · rw [if_neg h]
    by_cases ha : i = a
    · subst ha; rw [if_pos rfl, if_pos rfl]
    · rw [if_neg ha, if_neg h, if_neg ha]
theorem sw_lt {a i n : Nat} (ha : a < n) (hi : i < n) : sw a i < n := by
  unfold sw
  split
  · exact ha
  · split <;> omega
theorem sw_zero (a : Nat) : sw a 0 = a := by unfold sw; rw [if_pos rfl]
/-- The machine that begins at a state. -/
def Mc.frm (M : Mc) (a : Nat) : Mc := ⟨M.sg, (List.range M.n).map fun j => (ro M.nx (sw a j)).map fun t => (sw a t.toNat : Int), (List.range M.n).map fun j => bo M.tk (sw a j)⟩
section
variable {M : Mc} (hM : M.Ok) {a : Nat} (ha : a < M.n)
theorem Mc.frm_n (M : Mc) (a : Nat) : (M.frm a).n = M.n := by unfold Mc.frm Mc.n; simp
theorem Mc.frm_row {j : Nat} (hj : j < M.n) : ro (M.frm a).nx j = (ro M.nx (sw a j)).map fun t => (sw a t.toNat : Int) := by
  unfold Mc.frm ro
  simp only []
  rw [List.getElem?_map, List.getElem?_range hj]; rfl
theorem Mc.frm_tk {j : Nat} (hj : j < M.n) : bo (M.frm a).tk j = bo M.tk (sw a j) := by
  unfold Mc.frm
  simp only []
  rw [bo, List.getElem?_map, List.getElem?_range hj]; rfl
include hM ha
theorem Mc.frm_gi {j c : Nat} (hj : j < M.n) (hc : c < M.s) : gi (ro (M.frm a).nx j) c = (sw a (M.st (sw a j) c) : Int) := by
  rw [Mc.frm_row hj]
  have hl : c < (ro M.nx (sw a j)).length := by rw [hM.row _ (sw_lt ha hj)]; exact hc
  unfold Mc.st
  rw [gi_eq (by rw [List.length_map]; exact hl), List.getElem_map, gi_eq hl]
theorem Mc.frm_st {j c : Nat} (hj : j < M.n) (hc : c < M.s) : (M.frm a).st j c = sw a (M.st (sw a j) c) := by
  rw [Mc.st, Mc.frm_gi hM ha hj hc]; rfl
theorem Mc.frm_ok : (M.frm a).Ok := by
  have hn := M.frm_n a
  refine ⟨by rw [hn]; exact hM.pos, by rw [hn]; exact hM.small, hM.few, by rw [hn]; unfold Mc.frm; simp, hM.rise, fun i hi => ?_, fun i c hi hc => ?_⟩
  · rw [hn] at hi
    rw [Mc.frm_row hi, List.length_map]; exact hM.row _ (sw_lt ha hi)
  · rw [hn] at hi ⊢
    rw [Mc.frm_gi hM ha hi hc]
    have := sw_lt ha (hM.st_lt (sw_lt ha hi) hc)
    omega
theorem Mc.frm_lead {w : List Nat} : ∀ {j : Nat}, j < M.n → M.Wd w → (M.frm a).lead j w = sw a (M.lead (sw a j) w) := by
  induction w with
  | nil => intro j hj _; exact (sw_sw a j).symm
  | cons c w ih =>
    intro j hj hw
    have hc := hw c (List.mem_cons_self ..)
    show (M.frm a).lead ((M.frm a).st j c) w = sw a (M.lead (M.st (sw a j) c) w)
    rw [Mc.frm_st hM ha hj hc, ih (sw_lt ha (hM.st_lt (sw_lt ha hj) hc)) fun d hd => hw d (List.mem_cons_of_mem _ hd), sw_sw]
theorem Mc.frm_takes {w : List Nat} (hw : M.Wd w) : bo (M.frm a).tk ((M.frm a).lead 0 w) = bo M.tk (M.lead a w) := by
  rw [Mc.frm_lead hM ha hM.pos hw, sw_zero, Mc.frm_tk (sw_lt ha (hM.lead_lt ha hw)), sw_sw]
end
/-- From two states of the least machine: not the same. -/
theorem Mc.nerode {M : Mc} (hM : M.Ok) {i k : Nat} (hi : i < M.least.n) (hk : k < M.least.n) (hne : i ≠ k) : (M.least.frm i).least ≠ (M.least.frm k).least := by
  intro he
  have hL := Mc.least_ok hM
  refine hne ((Mc.least_ne hM hi hk).1 fun w hw => ?_)
  rw [← Mc.frm_takes hL hi hw, ← Mc.frm_takes hL hk hw, ← Mc.least_takes0 (Mc.frm_ok hL hi) hw, ← Mc.least_takes0 (Mc.frm_ok hL hk) hw, he]
end Go.Proofs.Ytfglajddibjnjaa
