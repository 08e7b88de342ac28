/- Words for package gram's table in memory. -/
import Derived.Test.YtlbiklhndcamhaaDoorGramW
namespace Go.Proofs.YtlbiklhndcamhaaDoor
open Go.RowKit GramM IntWalk

def rowV (n : Nat) (V : Nat → Nat → Nat) (i : Nat) : List Value := (List.range (n - i + 1)).map fun k => .int .u32 (V i k : Int)
def topV (n m : Nat) (G : Nat → Nat) : List Value := (List.range n).map fun i => if i < m then .slice (some ⟨G i, 0, none⟩) (n - i + 1) (n - i + 1) else .slice none 0 0
/-- The table: m rows of n lie; row i is block G i, its k-th number V i k. -/
structure Tab (w : World) (base g0 n m : Nat) (G : Nat → Nat) (V : Nat → Nat → Nat) : Prop where
  top : Blk w g0 49 (topV n m G)
  b0 : base ≤ g0
  row : ∀ i, i < m → Blk w (G i) 48 (rowV n V i)
  lo : ∀ i, i < m → g0 < G i
  inj : ∀ i j, i < m → j < m → G i = G j → i = j
  mn : m ≤ n
section
variable {w w' : World} {base g0 n m : Nat} {G : Nat → Nat} {V : Nat → Nat → Nat}
theorem Tab.topc (h : Tab w base g0 n m G V) {i : Nat} (hi : i < m) : w.cell? ⟨g0, i, none⟩ = some (.slice (some ⟨G i, 0, none⟩) (n - i + 1) (n - i + 1)) ∧ w.frozen? ⟨g0, i, none⟩ = false := by
  have := h.mn
  refine ⟨?_, h.top.frozen i⟩
  rw [h.top.cell i]
  unfold topV
  rw [List.getElem?_map, List.getElem?_range (by omega)]
  simp [hi]
theorem Tab.topx (h : Tab w base g0 n m G V) (hm : m < n) : w.cell? ⟨g0, m, none⟩ = some (.slice none 0 0) ∧ w.frozen? ⟨g0, m, none⟩ = false := by
  refine ⟨?_, h.top.frozen m⟩
  rw [h.top.cell m]
  unfold topV
  rw [List.getElem?_map, List.getElem?_range (by omega)]
  simp
theorem Tab.rowc (h : Tab w base g0 n m G V) {i k : Nat} (hi : i < m) (hk : k ≤ n - i) : w.cell? ⟨G i, k, none⟩ = some (.int .u32 (V i k : Int)) ∧ w.frozen? ⟨G i, k, none⟩ = false := by
  refine ⟨?_, (h.row i hi).frozen k⟩
  rw [(h.row i hi).cell k]
  unfold rowV
  rw [List.getElem?_map, List.getElem?_range (by omega)]
  rfl
theorem Tab.alloc (h : Tab w base g0 n m G V) (o : Obj) : Tab (w.alloc o) base g0 n m G V := ⟨h.top.alloc o, h.b0, fun i hi => (h.row i hi).alloc o, h.lo, h.inj, h.mn⟩
theorem Tab.drewN (h : Tab w base g0 n m G V) (q : Nat) : Tab (w.drewN q) base g0 n m G V := ⟨h.top.drewN q, h.b0, fun i hi => (h.row i hi).drewN q, h.lo, h.inj, h.mn⟩
theorem Tab.drew (h : Tab w base g0 n m G V) : Tab w.drew base g0 n m G V := ⟨h.top.drew, h.b0, fun i hi => (h.row i hi).drew, h.lo, h.inj, h.mn⟩
theorem Tab.congr (h : Tab w base g0 n m G V) {V' : Nat → Nat → Nat} (hv : ∀ i k, i < m → k ≤ n - i → V i k = V' i k) : Tab w base g0 n m G V' :=
  ⟨h.top, h.b0, fun i hi => by
    have := h.row i hi
    rwa [show rowV n V i = rowV n V' i from by
      unfold rowV
      refine List.map_congr_left fun k hk => ?_
      rw [List.mem_range] at hk
      rw [hv i k hi (by omega)]] at this, h.lo, h.inj, h.mn⟩
theorem Tab.set_ (h : Tab w base g0 n m G V) {i k v : Nat} (hi : i < m) (hk : k ≤ n - i) :
    Tab (w.setCell ⟨G i, k, none⟩ (.int .u32 (v : Int))) base g0 n m G (fun i' k' => if i' = i ∧ k' = k then v else V i' k') := by
  refine ⟨h.top.far (by have := h.lo i hi; show g0 ≠ G i; omega) _, h.b0, fun j hj => ?_, h.lo, h.inj, h.mn⟩
  by_cases hji : j = i
  · subst hji
    have := (h.row j hj).set_ k (.int .u32 (v : Int))
    rwa [show (rowV n V j).set k (.int .u32 (v : Int)) = rowV n (fun i' k' => if i' = j ∧ k' = k then v else V i' k') j from by
      unfold rowV
      apply List.ext_getElem?
      intro q
      rw [List.getElem?_set, List.getElem?_map, List.getElem?_map]
      by_cases hq : k = q
      · subst hq
        simp [List.getElem?_range (show k < n - j + 1 by omega)]
        omega
      · rw [if_neg hq]
        by_cases hql : q < n - j + 1
        · rw [List.getElem?_range hql]
          simp [show ¬ q = k from fun e => hq e.symm]
        · rw [List.getElem?_eq_none (by simpa using hql)]
          rfl] at this
  · have := (h.row j hj).far (p := ⟨G i, k, none⟩) (fun e => hji (h.inj j i hj hi e)) (.int .u32 (v : Int))
    rwa [show rowV n V j = rowV n (fun i' k' => if i' = i ∧ k' = k then v else V i' k') j from by
      unfold rowV
      refine List.map_congr_left fun q _ => ?_
      simp [hji]] at this
/-- A row more. -/
theorem Tab.push (h : Tab w base g0 n m G V) (hm : m < n) (hv : ∀ k, V m k = 0) :
    Tab ((w.alloc (.cells (List.replicate (n - m + 1) (.int .u32 0)).toArray 48)).setCell ⟨g0, m, none⟩ (.slice (some ⟨w.heap.size, 0, none⟩) (n - m + 1) (n - m + 1))) base g0 n (m + 1) (fun j => if j = m then w.heap.size else G j) V := by
  have hg0 := h.top.lt
  refine ⟨?_, h.b0, fun i hi => ?_, fun i hi => ?_, fun i j hi hj => ?_, by omega⟩
  · have := (h.top.alloc (.cells (List.replicate (n - m + 1) (.int .u32 0)).toArray 48)).set_ m (.slice (some ⟨w.heap.size, 0, none⟩) (n - m + 1) (n - m + 1))
    rwa [show (topV n m G).set m (.slice (some ⟨w.heap.size, 0, none⟩) (n - m + 1) (n - m + 1)) = topV n (m + 1) (fun j => if j = m then w.heap.size else G j) from by
      unfold topV
      apply List.ext_getElem?
      intro q
      rw [List.getElem?_set, List.getElem?_map, List.getElem?_map]
      by_cases hq : m = q
      · subst hq
        simp [hm]
      · rw [if_neg hq]
        by_cases hql : q < n
        · rw [List.getElem?_range hql]
          simp only [Option.map_some]
          by_cases hqm : q < m
          · simp [hqm, show q < m + 1 by omega, show ¬ q = m by omega]
          · simp [hqm, show ¬ q < m + 1 by omega]
        · rw [List.getElem?_eq_none (by simpa using hql)]
          rfl] at this
  · by_cases him : i = m
    · subst him
      have hn := Blk.new w 48 (List.replicate (n - i + 1) (.int .u32 0))
      have := hn.far (p := ⟨g0, i, none⟩) (by show w.heap.size ≠ g0; omega) (.slice (some ⟨w.heap.size, 0, none⟩) (n - i + 1) (n - i + 1))
      have e : rowV n V i = List.replicate (n - i + 1) (Value.int .u32 0) := by
        unfold rowV
        rw [List.map_congr_left (g := fun _ => Value.int .u32 0) (fun k _ => by rw [hv k]; rfl), List.map_const', List.length_range]
      rw [if_pos rfl, e]
      exact this
    · rw [if_neg him]
      exact ((h.row i (by omega)).alloc _).far (p := ⟨g0, m, none⟩) (by have := h.lo i (by omega); show G i ≠ g0; omega) _
  · by_cases him : i = m
    · simp only [him, if_true]; exact hg0
    · simp only [him, if_false]; exact h.lo i (by omega)
  · by_cases him : i = m
    · by_cases hjm : j = m
      · intro _; omega
      · simp only [him, if_true, hjm, if_false]
        intro e
        have := (h.row j (by omega)).lt
        omega
    · by_cases hjm : j = m
      · simp only [him, if_false, hjm, if_true]
        intro e
        have := (h.row i (by omega)).lt
        omega
      · simp only [him, if_false, hjm]
        exact h.inj i j (by omega) (by omega)
end
/-- What lies in the table: all shorter parts, of the parts so long those ahead of i0, and acc at i0. -/
def Vt (L : List Ru) (s : List UInt8) (l i0 acc : Nat) (i k : Nat) : Nat :=
  if k = 0 then 0 else if k < l then full L s i k else if k = l then (if i < i0 then full L s i l else if i = i0 then acc else 0) else 0
theorem Vt_row (L : List Ru) (s : List UInt8) (i k : Nat) : Vt L s 1 i 0 i k = 0 := by
  unfold Vt
  by_cases h0 : k = 0
  · simp [h0]
  · by_cases h1 : k = 1
    · simp [h1]
    · simp [h1]; omega
theorem Vt_at (L : List Ru) (s : List UInt8) (l i acc : Nat) (h : 1 ≤ l) : Vt L s l i acc i l = acc := by
  unfold Vt
  simp; omega
theorem Vt_lt (L : List Ru) (s : List UInt8) (l i0 acc i k : Nat) (h1 : 1 ≤ k) (h : k < l) : Vt L s l i0 acc i k = full L s i k := by
  unfold Vt
  rw [if_neg (by omega), if_pos h]
theorem full_and (L : List Ru) (s : List UInt8) (i k c : Nat) (h1 : 65 ≤ c) (h2 : c ≤ 90) :
    (der L c (cut s i k) = false → bits .and .u32 ((full L s i k : Nat) : Int) (2 ^ (c - 65)) = 0) ∧ (der L c (cut s i k) = true → ∃ z : Nat, 1 ≤ z ∧ bits .and .u32 ((full L s i k : Nat) : Int) (2 ^ (c - 65)) = (z : Int)) := by
  have hp : 2 ^ (c - 65) < 2 ^ 32 := Nat.pow_lt_pow_right (by omega) (by omega)
  have hx : full L s i k < 2 ^ 32 := Nat.lt_trans (mk_lt _) (by omega)
  have e := and_u32 (full L s i k) (2 ^ (c - 65)) hx hp
  rw [Nat.cast_pow_two] at e
  have hm : (full L s i k &&& 2 ^ (c - 65) == 0) = !der L (65 + (c - 65)) (cut s i k) := mk_and _ (c - 65) (by omega)
  rw [show 65 + (c - 65) = c by omega] at hm
  constructor
  · intro h
    rw [h] at hm
    have h0 : full L s i k &&& 2 ^ (c - 65) = 0 := by simpa using hm
    rw [e, h0]; rfl
  · intro h
    rw [h] at hm
    have h0 : full L s i k &&& 2 ^ (c - 65) ≠ 0 := by simpa using hm
    exact ⟨_, Nat.one_le_iff_ne_zero.2 h0, e⟩
theorem Vt_set (L : List Ru) (s : List UInt8) (l i0 acc acc' : Nat) (hl : 1 ≤ l) (i k : Nat) : (if i = i0 ∧ k = l then acc' else Vt L s l i0 acc i k) = Vt L s l i0 acc' i k := by
  unfold Vt
  by_cases h : i = i0 ∧ k = l
  · obtain ⟨rfl, rfl⟩ := h
    simp; omega
  · rw [if_neg h]
    by_cases hk : k = l
    · have hi : ¬ i = i0 := fun e => h ⟨e, hk⟩
      simp [hi]
    · simp [hk]
theorem Vt_next (L : List Ru) (s : List UInt8) (l i0 : Nat) (i k : Nat) : Vt L s l i0 (full L s i0 l) i k = Vt L s l (i0 + 1) 0 i k := by
  unfold Vt
  by_cases h0 : k = 0
  · simp [h0]
  · by_cases h1 : k < l
    · simp [h0, h1]
    · by_cases h2 : k = l
      · subst h2
        simp only [h0, h1, if_false, if_true]
        by_cases h3 : i < i0
        · simp [h3, show i < i0 + 1 by omega]
        · by_cases h4 : i = i0
          · subst h4; simp
          · simp [h3, h4, show ¬ i < i0 + 1 by omega]
      · simp [h0, h1, h2]
theorem Vt_longer (L : List Ru) (s : List UInt8) (l i0 : Nat) (n : Nat) (h : n < i0 + l) (i k : Nat) (hi : k ≤ n - i) (hin : i < n) : Vt L s l i0 0 i k = Vt L s (l + 1) 0 0 i k := by
  unfold Vt
  by_cases h0 : k = 0
  · simp [h0]
  · by_cases h1 : k < l
    · simp [h0, h1, show k < l + 1 by omega]
    · by_cases h2 : k = l
      · subst h2
        simp [h0, show i < i0 by omega]
      · have h3 : ¬ k < l + 1 := by omega
        simp only [h0, h1, h2, h3, if_false]
        by_cases h4 : k = l + 1
        · simp [h4]
        · simp [h4]
end Go.Proofs.YtlbiklhndcamhaaDoor
