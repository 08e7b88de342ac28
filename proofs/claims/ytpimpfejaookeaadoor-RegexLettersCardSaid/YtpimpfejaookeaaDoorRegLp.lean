/- RegexLetters: the plain laws. No condition. -/
import Derived.Test.YtpimpfejaookeaaDoorRegSt
namespace Go.Proofs.YtpimpfejaookeaaDoor

theorem nd_len : ∀ (xs ys : List UInt8), xs.Nodup → (∀ c ∈ xs, c ∈ ys) → xs.length ≤ ys.length
  | [], ys, _, _ => Nat.zero_le _
  | x :: xs, ys, hn, hs => by
    rw [List.nodup_cons] at hn
    have hx : x ∈ ys := hs x (by simp)
    have h1 := nd_len xs (ys.erase x) hn.2 (fun c hc => by
      rw [List.mem_erase_of_ne (show c ≠ x from fun e => hn.1 (e ▸ hc))]; exact hs c (by simp [hc]))
    rw [List.length_erase_of_mem hx] at h1
    have h2 := List.length_pos_of_mem hx
    rw [List.length_cons]; omega
theorem sgs_nd (l : List UInt8) : (sgs l).Nodup := (sgs_up l).imp fun h e => by subst e; exact absurd h (UInt8.lt_irrefl _)
theorem sgs_len (l : List UInt8) : (sgs l).length ≤ (lets l).length :=
  nd_len _ _ (sgs_nd l) fun c hc => by
    obtain ⟨h1, h2⟩ := sgs_mem.1 hc
    exact List.mem_filter.2 ⟨h1, h2⟩
theorem sgs_at (l : List UInt8) {j i : Nat} (h : j < i) (hi : i < (sgs l).length) : (bu (sgs l) j).toNat < (bu (sgs l) i).toNat := by
  have := List.pairwise_iff_getElem.1 (sgs_up l) j i (by omega) hi h
  have e1 : bu (sgs l) j = (sgs l)[j]'(by omega) := by simp [bu, show j < (sgs l).length by omega]
  have e2 : bu (sgs l) i = (sgs l)[i] := by simp [bu, hi]
  rw [e1, e2]; exact this
theorem occ_one (t : List UInt8) (c : UInt8) (hp : t.Pairwise (· < ·)) : ∀ i, i ≤ t.length → (occP [c] t i).length = if c ∈ t.take i then 1 else 0
  | 0, _ => by simp [occP]
  | i + 1, h => by
    have hi : i < t.length := by omega
    have ih := occ_one t c hp i (by omega)
    rw [occP_step]
    have hb : beginsB (t.drop i) [c] = decide (t[i] = c) := by
      unfold beginsB
      obtain ⟨D, hD⟩ : ∃ D, t.drop i = t[i] :: D := ⟨_, List.drop_eq_getElem_cons hi⟩
      rw [hD]
      simp
    have ht : t.take (i + 1) = t.take i ++ [t[i]] := by rw [List.take_succ_eq_append_getElem hi]
    rw [hb, ht]
    by_cases e : t[i] = c
    · have hno : ¬ c ∈ t.take i := fun hc => by
        obtain ⟨j, hj, he⟩ := List.mem_take_iff_getElem.1 hc
        have hlt := List.pairwise_iff_getElem.1 hp j i (by omega) hi (by omega)
        rw [he, e] at hlt
        exact UInt8.lt_irrefl _ hlt
      rw [if_neg hno] at ih
      simp [e, ih]
    · have e' : ¬ c = t[i] := fun h => e h.symm
      have hiff : c ∈ t.take i ++ [t[i]] ↔ c ∈ t.take i := by
        rw [List.mem_append, List.mem_singleton]; exact ⟨fun h => h.resolve_right e', .inl⟩
      rw [if_neg (by simpa using e), ih]
      simp only [hiff]
theorem occ_sgs {p s : List UInt8} {t : Pt} {rt : Rt} (hp : par p = some t) (hr : Rel rt t) (hm : mt rt s = true) {c : UInt8} (hc : c ∈ s) : (occ [c] (sgs p)).length = 1 := by
  have h1 := mt_mem rt s hm c hc
  rw [lv_rel hr, (par_leaves hp).1] at h1
  obtain ⟨h2, h3⟩ := List.mem_filter.1 h1
  unfold occ
  rw [occ_one _ _ (sgs_up p) _ (Nat.le_refl _), List.take_length, if_pos (sgs_mem.2 ⟨h2, h3⟩)]
end Go.Proofs.YtpimpfejaookeaaDoor
