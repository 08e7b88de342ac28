/- Small plain words on lists. -/
namespace Go.Proofs.YtchhbnnpannnhaaDoor
/-- The k-th number of a list (0 behind its end). A name that simp does not open. -/
def gi (l : List Int) (k : Nat) : Int := l[k]?.getD 0
theorem gi_eq {l : List Int} {k : Nat} (h : k < l.length) : gi l k = l[k] := by unfold gi; rw [List.getElem?_eq_getElem h]; rfl
theorem gi_set {l : List Int} {i : Nat} {x : Int} {j : Nat} : gi (l.set i x) j = if i = j then (if i < l.length then x else 0) else gi l j := by
  unfold gi
  rw [List.getElem?_set]
  split
  · split <;> rfl
  · rfl
theorem gi_set_ne {l : List Int} {i j : Nat} {x : Int} (h : i ≠ j) : gi (l.set i x) j = gi l j := by rw [gi_set, if_neg h]
theorem gi_set_self {l : List Int} {i : Nat} {x : Int} (h : i < l.length) : gi (l.set i x) i = x := by rw [gi_set, if_pos rfl, if_pos h]
theorem gi_replicate (n : Nat) (j : Nat) : gi (List.replicate n 0) j = 0 := by
  unfold gi; rw [List.getElem?_replicate]; split <;> rfl
theorem gi_mem {l : List Int} {k : Nat} (h : k < l.length) : gi l k ∈ l := by rw [gi_eq h]; exact List.getElem_mem h
theorem gi_drop {l : List Int} {i k : Nat} : gi (l.drop i) k = gi l (i + k) := by unfold gi; rw [List.getElem?_drop]
theorem gi_take {l : List Int} {i k : Nat} (h : k < i) : gi (l.take i) k = gi l k := by unfold gi; rw [List.getElem?_take_of_lt h]
theorem take_succ_gi {l : List Int} {k : Nat} (h : k < l.length) : l.take (k + 1) = l.take k ++ [gi l k] := by
  rw [List.take_succ_eq_append_getElem h, gi_eq h]
theorem drop_gi {l : List Int} {k : Nat} (h : k < l.length) : l.drop k = gi l k :: l.drop (k + 1) := by
  rw [List.drop_eq_getElem_cons h, gi_eq h]
theorem gi_out {l : List Int} {k : Nat} (h : l.length ≤ k) : gi l k = 0 := by unfold gi; rw [List.getElem?_eq_none h]; rfl

/-- The k-th byte of a text (0 behind its end). A name that simp does not open. -/
def bu (l : List UInt8) (k : Nat) : UInt8 := l[k]?.getD 0
theorem bu_eq {l : List UInt8} {k : Nat} (h : k < l.length) : bu l k = l[k] := by unfold bu; rw [List.getElem?_eq_getElem h]; rfl
theorem bu_mem {l : List UInt8} {k : Nat} (h : k < l.length) : bu l k ∈ l := by rw [bu_eq h]; exact List.getElem_mem h
theorem bu_drop {l : List UInt8} {i k : Nat} : bu (l.drop i) k = bu l (i + k) := by unfold bu; rw [List.getElem?_drop]
theorem bu_take {l : List UInt8} {i k : Nat} (h : k < i) : bu (l.take i) k = bu l k := by unfold bu; rw [List.getElem?_take_of_lt h]
theorem drop_bu {l : List UInt8} {k : Nat} (h : k < l.length) : l.drop k = bu l k :: l.drop (k + 1) := by rw [List.drop_eq_getElem_cons h, bu_eq h]
theorem take_succ_bu {l : List UInt8} {k : Nat} (h : k < l.length) : l.take (k + 1) = l.take k ++ [bu l k] := by rw [List.take_succ_eq_append_getElem h, bu_eq h]
theorem bu_out {l : List UInt8} {k : Nat} (h : l.length ≤ k) : bu l k = 0 := by unfold bu; rw [List.getElem?_eq_none h]; rfl
end Go.Proofs.YtchhbnnpannnhaaDoor
