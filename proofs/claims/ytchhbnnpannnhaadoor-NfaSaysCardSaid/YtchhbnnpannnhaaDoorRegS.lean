/- What fits a pattern, the document's way, in plain Lean; which letters it has. No condition. -/
import Derived.Test.YtchhbnnpannnhaaDoorRegR
namespace Go.Proofs.YtchhbnnpannnhaaDoor
set_option linter.unusedVariables false

/-- So many times: fuel is the text's length. -/
def mtS (M : List UInt8 → Bool) : Nat → List UInt8 → Bool
  | 0, s => s.isEmpty
  | f + 1, s => s.isEmpty || (List.range s.length).any fun i => M (s.take (i + 1)) && mtS M f (s.drop (i + 1))
def mt : Rt → List UInt8 → Bool
  | .emp, s => s.isEmpty
  | .sgn c, s => s == [c]
  | .alt l r, s => mt l s || mt r s
  | .seq l r, s => (List.range (s.length + 1)).any fun i => mt l (s.take i) && mt r (s.drop i)
  | .str l, s => mtS (mt l) s.length s
theorem any_congr' {α : Type} {l : List α} {p q : α → Bool} (h : ∀ x ∈ l, p x = q x) : l.any p = l.any q := by
  induction l with
  | nil => rfl
  | cons a l ih => rw [List.any_cons, List.any_cons, h a (by simp), ih fun x hx => h x (by simp [hx])]
theorem mtS_fuel (M : List UInt8 → Bool) : ∀ (f g : Nat) (s : List UInt8), s.length ≤ f → s.length ≤ g → mtS M f s = mtS M g s
  | 0, 0, s, _, _ => rfl
  | 0, g + 1, s, h, _ => by
    have : s = [] := List.length_eq_zero_iff.1 (by omega)
    subst this; rfl
  | f + 1, 0, s, _, h => by
    have : s = [] := List.length_eq_zero_iff.1 (by omega)
    subst this; rfl
  | f + 1, g + 1, s, hf, hg => by
    unfold mtS
    congr 1
    refine any_congr' fun i hi => ?_
    have : i < s.length := by simpa using hi
    rw [mtS_fuel M f g _ (by rw [List.length_drop]; omega) (by rw [List.length_drop]; omega)]
/-- A star, unfolded. -/
theorem mt_str (l : Rt) (s : List UInt8) : mt (.str l) s = (s.isEmpty || (List.range s.length).any fun i => mt l (s.take (i + 1)) && mt (.str l) (s.drop (i + 1))) := by
  show mtS (mt l) s.length s = _
  cases s with
  | nil => rfl
  | cons c s =>
    rw [List.length_cons]
    unfold mtS
    congr 1
    refine any_congr' fun i hi => ?_
    have : i < s.length + 1 := by simpa using hi
    show _ = (mt l _ && mtS (mt l) (List.drop (i + 1) (c :: s)).length _)
    rw [mtS_fuel _ s.length _ _ (by simp) (Nat.le_refl _)]
theorem mt_nul {a : Rt} {x : Pt} (h : Rel a x) : mt a [] = nul x := by
  induction h with
  | emp => rfl
  | empS => rfl
  | sgn c k => rfl
  | alt _ _ h1 h2 => simp only [mt, nul, h1, h2]
  | seq _ _ h1 h2 => simp [mt, nul, h1, h2]
  | str _ _ => rfl
  | strS _ _ => rfl
def lvR : Rt → List UInt8
  | .emp => []
  | .sgn c => [c]
  | .alt l r => lvR l ++ lvR r
  | .seq l r => lvR l ++ lvR r
  | .str l => lvR l
theorem lv_rel {a : Rt} {x : Pt} (h : Rel a x) : lvR a = leaves x := by
  induction h with
  | emp => rfl
  | empS => rfl
  | sgn c k => rfl
  | alt _ _ h1 h2 => simp only [lvR, leaves, h1, h2]
  | seq _ _ h1 h2 => simp only [lvR, leaves, h1, h2]
  | str _ h1 => simpa [lvR, leaves] using h1
  | strS _ h1 => simpa [lvR, leaves] using h1
theorem mem_parts {c : UInt8} {s : List UInt8} (i : Nat) (h : c ∈ s) : c ∈ s.take i ∨ c ∈ s.drop i := by
  rw [← List.take_append_drop i s, List.mem_append] at h
  exact h
theorem mtS_mem {l : Rt} (h : ∀ s, mt l s = true → ∀ c ∈ s, c ∈ lvR l) : ∀ (f : Nat) (s : List UInt8), mtS (mt l) f s = true → ∀ c ∈ s, c ∈ lvR l
  | 0, s, hm, c, hc => by
    unfold mtS at hm
    have : s = [] := by simpa using hm
    subst this; cases hc
  | f + 1, s, hm, c, hc => by
    unfold mtS at hm
    rw [Bool.or_eq_true] at hm
    rcases hm with hm | hm
    · have : s = [] := by simpa using hm
      subst this; cases hc
    · rw [List.any_eq_true] at hm
      obtain ⟨i, _, hi⟩ := hm
      rw [Bool.and_eq_true] at hi
      rcases mem_parts (i + 1) hc with h' | h'
      · exact h _ hi.1 c h'
      · exact mtS_mem h f _ hi.2 c h'
/-- What fits consists of letters of the pattern. -/
theorem mt_mem : ∀ (a : Rt) (s : List UInt8), mt a s = true → ∀ c ∈ s, c ∈ lvR a
  | .emp, s, hm, c, hc => by
    have : s = [] := by simpa [mt] using hm
    subst this; cases hc
  | .sgn d, s, hm, c, hc => by
    have : s = [d] := by simpa [mt] using hm
    subst this; exact hc
  | .alt l r, s, hm, c, hc => by
    unfold mt at hm
    rw [Bool.or_eq_true] at hm
    unfold lvR
    rw [List.mem_append]
    rcases hm with hm | hm
    · exact .inl (mt_mem l s hm c hc)
    · exact .inr (mt_mem r s hm c hc)
  | .seq l r, s, hm, c, hc => by
    unfold mt at hm
    rw [List.any_eq_true] at hm
    obtain ⟨i, _, hi⟩ := hm
    rw [Bool.and_eq_true] at hi
    unfold lvR
    rw [List.mem_append]
    rcases mem_parts i hc with h' | h'
    · exact .inl (mt_mem l _ hi.1 c h')
    · exact .inr (mt_mem r _ hi.2 c h')
  | .str l, s, hm, c, hc => mtS_mem (fun s h => mt_mem l s h) _ s hm c hc

/-- The letters of a text, rising, each once. -/
def sgs (l : List UInt8) : List UInt8 := (List.range 26).filterMap fun i => if UInt8.ofNat (97 + i) ∈ l then some (UInt8.ofNat (97 + i)) else none
theorem sgs_mem {l : List UInt8} {c : UInt8} : c ∈ sgs l ↔ c ∈ l ∧ isLo c = true := by
  unfold sgs
  rw [List.mem_filterMap]
  constructor
  · rintro ⟨i, hi, h⟩
    have hi' : i < 26 := by simpa using hi
    split at h
    · rename_i hm
      injection h with h; subst h
      refine ⟨hm, ?_⟩
      unfold isLo
      have : (UInt8.ofNat (97 + i)).toNat = 97 + i := by simp; omega
      simp only [UInt8.le_iff_toNat_le, this, decide_eq_true_eq]
      constructor
      · show 97 ≤ 97 + i; omega
      · show 97 + i ≤ 122; omega
    · cases h
  · rintro ⟨h1, h2⟩
    have h3 : 97 ≤ c.toNat ∧ c.toNat ≤ 122 := by
      unfold isLo at h2
      simp only [UInt8.le_iff_toNat_le, decide_eq_true_eq] at h2
      exact h2
    have e : UInt8.ofNat (97 + (c.toNat - 97)) = c := by rw [show 97 + (c.toNat - 97) = c.toNat by omega]; simp
    exact ⟨c.toNat - 97, by simp; omega, by rw [e, if_pos h1]⟩
theorem sgs_up (l : List UInt8) : (sgs l).Pairwise (· < ·) := by
  unfold sgs
  rw [List.pairwise_filterMap]
  refine List.Pairwise.imp_of_mem ?_ (List.pairwise_lt_range (n := 26))
  intro a b ha hb hab x hx y hy
  have ha' : a < 26 := by simpa using ha
  have hb' : b < 26 := by simpa using hb
  split at hx
  · split at hy
    · injection hx with hx; injection hy with hy; subst hx hy
      rw [UInt8.lt_iff_toNat_lt]
      have h1 : (UInt8.ofNat (97 + a)).toNat = 97 + a := by simp; omega
      have h2 : (UInt8.ofNat (97 + b)).toNat = 97 + b := by simp; omega
      rw [h1, h2]; omega
    · cases hy
  · cases hx
/-- Two rising lists with the same members are one. -/
theorem up_ext : ∀ (a b : List UInt8), a.Pairwise (· < ·) → b.Pairwise (· < ·) → (∀ c, c ∈ a ↔ c ∈ b) → a = b
  | [], [], _, _, _ => rfl
  | [], d :: b, _, _, h => absurd ((h d).2 (by simp)) (by simp)
  | c :: a, [], _, _, h => absurd ((h c).1 (by simp)) (by simp)
  | c :: a, d :: b, ha, hb, h => by
    rw [List.pairwise_cons] at ha hb
    have e : c = d := by
      have h1 := (h c).1 (by simp)
      have h2 := (h d).2 (by simp)
      rw [List.mem_cons] at h1 h2
      rcases h1 with h1 | h1
      · exact h1
      · rcases h2 with h2 | h2
        · exact h2.symm
        · have := hb.1 _ h1
          have := ha.1 _ h2
          rw [UInt8.lt_iff_toNat_lt] at *
          omega
    subst e
    rw [up_ext a b ha.2 hb.2 fun x => ?_]
    constructor
    · intro hx
      have h1 := (h x).1 (by simp [hx])
      rw [List.mem_cons] at h1
      rcases h1 with rfl | h1
      · exact absurd (ha.1 _ hx) (by rw [UInt8.lt_iff_toNat_lt]; omega)
      · exact h1
    · intro hx
      have h1 := (h x).2 (by simp [hx])
      rw [List.mem_cons] at h1
      rcases h1 with rfl | h1
      · exact absurd (hb.1 _ hx) (by rw [UInt8.lt_iff_toNat_lt]; omega)
      · exact h1
/-- Neighbours that are alike struck. -/
def cpt : List UInt8 → List UInt8
  | [] => []
  | [c] => [c]
  | c :: d :: l => if c = d then cpt (d :: l) else c :: cpt (d :: l)
theorem cpt_mem : ∀ (l : List UInt8) (x : UInt8), x ∈ cpt l ↔ x ∈ l
  | [], x => Iff.rfl
  | [c], x => Iff.rfl
  | c :: d :: l, x => by
    unfold cpt
    have ih := cpt_mem (d :: l) x
    by_cases e : c = d
    · rw [if_pos e, ih]; subst e; simp
    · rw [if_neg e, List.mem_cons, ih, List.mem_cons (a := x) (b := c)]
theorem cpt_up : ∀ (l : List UInt8), l.Pairwise (· ≤ ·) → (cpt l).Pairwise (· < ·)
  | [], _ => .nil
  | [c], _ => by simp [cpt]
  | c :: d :: l, h => by
    unfold cpt
    rw [List.pairwise_cons] at h
    have ih := cpt_up (d :: l) h.2
    by_cases e : c = d
    · rw [if_pos e]; exact ih
    · rw [if_neg e, List.pairwise_cons]
      refine ⟨fun x hx => ?_, ih⟩
      rw [cpt_mem] at hx
      have h1 := h.1 d (by simp)
      have h2 : d ≤ x := by
        rw [List.mem_cons] at hx
        rcases hx with rfl | hx
        · exact UInt8.le_refl _
        · exact (List.pairwise_cons.1 h.2).1 x hx
      rw [UInt8.lt_iff_toNat_lt]
      rw [UInt8.le_iff_toNat_le] at h1 h2
      have : c.toNat ≠ d.toNat := fun h => e (UInt8.toNat_inj.1 h)
      omega
/-- Sorted, and each once: the letters, rising. -/
theorem cpt_sgs {l s : List UInt8} (hs : s.Pairwise (· ≤ ·)) (hm : ∀ c, c ∈ s ↔ c ∈ lets l) : cpt s = sgs l := by
  refine up_ext _ _ (cpt_up s hs) (sgs_up l) fun c => ?_
  rw [cpt_mem, hm, sgs_mem]
  unfold lets
  rw [List.mem_filter]
end Go.Proofs.YtchhbnnpannnhaaDoor
