/- Plain laws on names, and words on rules in memory. -/
import Derived.Test.YtlbiklhndcamhaaDoorGramL
namespace Go.Proofs.YtlbiklhndcamhaaDoor
open Go.RowKit GramM IntWalk

theorem hasB_nms (L : List Ru) (s : List UInt8) (c : UInt8) : hasB (nms L s) c = (decide (65 ≤ c.toNat ∧ c.toNat ≤ 90) && der L c.toNat s) := by
  rw [Bool.eq_iff_iff]
  unfold hasB nms nmsTo
  simp only [List.any_eq_true, List.mem_map, List.mem_filter, List.mem_range, beq_iff_eq, Bool.and_eq_true, decide_eq_true_eq]
  constructor
  · rintro ⟨x, ⟨k, ⟨hk, hd⟩, rfl⟩, rfl⟩
    have e : (UInt8.ofNat (65 + k)).toNat = 65 + k := by simp; omega
    rw [e]
    exact ⟨by omega, hd⟩
  · rintro ⟨h, hd⟩
    refine ⟨c, ⟨c.toNat - 65, ⟨by omega, by rw [show 65 + (c.toNat - 65) = c.toNat by omega]; exact hd⟩, ?_⟩, rfl⟩
    rw [show 65 + (c.toNat - 65) = c.toNat by omega]
    simp
theorem chk_ok {L : List Ru} (h : chk L = 0) : ∀ r ∈ L, okR r = true := by
  unfold chk at h
  split at h
  · cases h
  · split at h
    · rename_i h2; exact List.all_eq_true.1 h2
    · cases h
theorem Rules.grow {w w' : World} {n : Nat} {A : Option Addr} {L : List Ru} (h : Rules w w.heap.size A n L) (hb : Below w.heap.size w w') : Rules w' w'.heap.size A n L :=
  ⟨h.1, fun hn => by
    obtain ⟨b, off, e, hbb, hc⟩ := (h.below hb).2 hn
    exact ⟨b, off, e, Nat.lt_of_lt_of_le hbb hb.size, hc⟩⟩
theorem bu8_eq (a b : UInt8) (h : a = b) : ((a.toNat : Int) == (b.toNat : Int)) = true ∧ (a.toNat == b.toNat) = true ∧ ((a.toNat : Int) != (b.toNat : Int)) = false ∧ (a.toNat != b.toNat) = false := by
  subst h; simp
theorem bu8_ne (a b : UInt8) (h : a ≠ b) : ((a.toNat : Int) == (b.toNat : Int)) = false ∧ (a.toNat == b.toNat) = false ∧ ((a.toNat : Int) != (b.toNat : Int)) = true ∧ (a.toNat != b.toNat) = true := by
  have h1 : a.toNat ≠ b.toNat := fun e => h (UInt8.toNat_inj.1 e)
  have h2 : (a.toNat : Int) ≠ (b.toNat : Int) := fun e => h1 (by exact_mod_cast e)
  simp [h1, h2]

/-- More rules, no fewer names. -/
theorem der_mono {L L' : List Ru} (h : ∀ r ∈ L, r ∈ L') : ∀ (n : Nat) (s : List UInt8) (c : Nat), s.length ≤ n → der L c s = true → der L' c s = true := by
  intro n
  induction n with
  | zero =>
    intro s c hs hd
    obtain rfl : s = [] := List.length_eq_zero_iff.1 (by omega)
    rw [der, derB_nil] at hd; cases hd
  | succ n ih =>
    intro s c hs hd
    rw [der_eq] at hd ⊢
    rw [List.any_eq_true] at hd ⊢
    obtain ⟨r, hr, hd⟩ := hd
    refine ⟨r, h r hr, ?_⟩
    simp only [Bool.and_eq_true, Bool.or_eq_true] at hd ⊢
    refine ⟨hd.1, hd.2.imp id fun h2 => ⟨h2.1, ?_⟩⟩
    have h3 := h2.2
    rw [List.any_eq_true] at h3 ⊢
    obtain ⟨k, hk, h4⟩ := h3
    rw [List.mem_range] at hk
    simp only [Bool.and_eq_true, decide_eq_true_eq] at h4
    refine ⟨k, List.mem_range.2 hk, ?_⟩
    simp only [Bool.and_eq_true, decide_eq_true_eq]
    exact ⟨h4.1, ih _ _ (by rw [List.length_take]; omega) h4.2.1, ih _ _ (by rw [List.length_drop]; omega) h4.2.2⟩
theorem der_same {L L' : List Ru} (h : ∀ r, r ∈ L ↔ r ∈ L') (s : List UInt8) (c : Nat) : der L c s = der L' c s := by
  rw [Bool.eq_iff_iff]
  exact ⟨der_mono (fun r => (h r).1) _ s c (Nat.le_refl _), der_mono (fun r => (h r).2) _ s c (Nat.le_refl _)⟩
theorem nms_rev (L : List Ru) (s : List UInt8) : nms L.reverse s = nms L s := by
  unfold nms nmsTo
  congr 1
  refine List.filter_congr fun c _ => ?_
  rw [der_same (L := L.reverse) (L' := L) (fun r => List.mem_reverse)]
theorem chk_rev (L : List Ru) : chk L.reverse = chk L := by
  unfold chk
  rw [List.length_reverse, List.all_reverse]
theorem nms_more {L L' : List Ru} (h : ∀ r ∈ L, r ∈ L') (s : List UInt8) {i : Nat} (hi : i < (nms L s).length) : hasB (nms L' s) (bu (nms L s) i) = true := by
  have h1 : hasB (nms L s) (bu (nms L s) i) = true := by
    unfold hasB
    rw [List.any_eq_true]
    exact ⟨_, bu_mem hi, by simp⟩
  rw [hasB_nms] at h1 ⊢
  simp only [Bool.and_eq_true] at h1 ⊢
  exact ⟨h1.1, der_mono h _ s _ (Nat.le_refl _) h1.2⟩
theorem chk_more {L : List Ru} (h : chk L = 0) (r : Ru) : (chk (L.reverse ++ [r]) = 4 ∧ L.length = 10) ∨ chk (L.reverse ++ [r]) = 2 ∨ chk (L.reverse ++ [r]) = 0 := by
  unfold chk at h ⊢
  rw [List.length_append, List.length_reverse]
  simp only [List.length_cons, List.length_nil, Nat.zero_add]
  split at h
  · cases h
  · split
    · left; exact ⟨rfl, by omega⟩
    · split
      · right; right; rfl
      · right; left; rfl
end Go.Proofs.YtlbiklhndcamhaaDoor
