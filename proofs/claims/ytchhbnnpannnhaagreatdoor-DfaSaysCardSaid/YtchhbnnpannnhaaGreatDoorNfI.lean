/- slices.Sort of a row of places; slices.Sorted of a set's keys. No condition. -/
import Derived.Test.YtchhbnnpannnhaaGreatDoorMg1
import Derived.Test.YtchhbnnpannnhaaGreatDoorIter
namespace Go.Proofs.YtchhbnnpannnhaaGreatDoor
open Go.RowKit Go.Maps Go.Sort Go.Shelf
set_option linter.unusedVariables false

/-- The places below n that are in a list, rising. -/
def srt (n : Nat) (L : List Nat) : List Nat := (List.range n).filter fun j => decide (j ∈ L)
theorem mem_srt {n : Nat} {L : List Nat} {j : Nat} : j ∈ srt n L ↔ j < n ∧ j ∈ L := by
  unfold srt
  rw [List.mem_filter, List.mem_range, decide_eq_true_eq]
theorem srt_up (n : Nat) (L : List Nat) : (srt n L).Pairwise (· < ·) := List.Pairwise.filter _ List.pairwise_lt_range
theorem srt_nodup (n : Nat) (L : List Nat) : (srt n L).Nodup := (srt_up n L).imp fun h => Nat.ne_of_lt h
theorem srt_perm {n : Nat} {L : List Nat} (h : L.Nodup) (hm : ∀ j ∈ L, j < n) : L.Perm (srt n L) :=
  (List.perm_ext_iff_of_nodup h (srt_nodup n L)).2 fun j => by rw [mem_srt]; exact ⟨fun h => ⟨hm j h, h⟩, fun h => h.2⟩
abbrev zs (L : List Nat) : List Int := L.map fun j : Nat => (j : Int)
theorem ms_eq {l t : List Int} (hp : l.Perm t) (ht : t.Pairwise (· ≤ ·)) : l.mergeSort (fun x y => decide (x ≤ y)) = t := by
  have tr : ∀ a b c : Int, (fun x y : Int => decide (x ≤ y)) a b = true → (fun x y : Int => decide (x ≤ y)) b c = true → (fun x y : Int => decide (x ≤ y)) a c = true := fun a b c h1 h2 => by simp only [decide_eq_true_eq] at *; omega
  have tot : ∀ a b : Int, ((fun x y : Int => decide (x ≤ y)) a b || (fun x y : Int => decide (x ≤ y)) b a) = true := fun a b => by simp only [Bool.or_eq_true, decide_eq_true_eq]; omega
  refine List.Perm.eq_of_pairwise (le := fun a b => (fun x y : Int => decide (x ≤ y)) a b = true) (fun a b _ _ h1 h2 => ?_) (List.pairwise_mergeSort tr tot l) (ht.imp fun h => by simpa using h) ((List.mergeSort_perm l _).trans hp)
  simp only [decide_eq_true_eq] at h1 h2
  omega
theorem zs_up (n : Nat) (L : List Nat) : (zs (srt n L)).Pairwise (· ≤ ·) := List.pairwise_map.2 ((srt_up n L).imp fun h => by omega)
theorem map_eI (L : List Nat) : L.map eI = (zs L).map (Value.int .i64) := by rw [List.map_map]; rfl
set_option maxHeartbeats 1000000 in
/-- slices.Sort of a row of the call's own. -/
theorem sortRow_any (n D : Nat) (u : Value) (R : List Nat) (w : World) (h : w.ownsRow D 3 1 u R.length (R.map eI)) (hR : R.Nodup) (hn : ∀ j ∈ R, j < n) (hn2 : n ≤ 64) :
    Calls Tryz.prog 47 #[u] w fun e w' => e = .returned (.tuple #[]) ∧ w'.ownsRow D 3 1 u R.length ((srt n R).map eI) ∧ w.grownBy w' u.ownBlock := by
  have hl : R.length = (srt n R).length := (srt_perm hR hn).length_eq
  have hms := ms_eq ((srt_perm hR hn).map fun j : Nat => (j : Int)) (zs_up n R)
  rcases h.2 with ⟨rfl, hz⟩ | ⟨gb, cap, cur, rfl, hbase, hgb, r1, r2, r3, r4⟩
  · have hnil : R = [] := List.eq_nil_of_length_eq_zero hz
    subst hnil
    have hs : srt n [] = [] := List.eq_nil_of_length_eq_zero hl.symm
    rw [hs]
    refine (AnyM.slices_Sort_int_none Tryz.sortIM none 0 w).mono fun e w' ⟨h1, h2⟩ => ?_
    subst h2
    exact ⟨h1, h, World.grownBy.refl _ _⟩
  · have hlen : (zs R).length = R.length := List.length_map ..
    have hH : Holds encZ w gb 0 (zs R).toArray := holds_of_block_i hgb (by rw [hlen, ← map_eI]; simpa using r4)
    have hlow : R.length ≤ 64 := by
      have := hl
      have h3 : (srt n R).length ≤ n := by unfold srt; exact Nat.le_trans (List.length_filter_le _ _) (by simp)
      omega
    have hc := AnyM.slices_Sort_int Tryz.sortIM gb 0 cap (zs R) w hH (Array.getElem?_eq_some_iff.1 hgb).1 (by rw [hlen]; omega)
    rw [hlen, hms] at hc
    refine hc.mono fun e w' ⟨h1, nn, os, h2⟩ => ?_
    subst h2
    refine ⟨h1, ?_, grownBy_sorted_i _⟩
    have hq := ownsRow_sorted_i (ss := zs R) (ts := zs (srt n R)) (n := nn) (os := os) (cap := cap) (base := D) (by rw [hlen, List.length_map, ← hl]) hbase hgb (by rw [hlen]; exact r1) r2 r3
    rw [hlen] at hq
    rw [map_eI]
    exact hq
set_option maxHeartbeats 1000000 in
/-- slices.Sorted of what maps.Keys has handed back. -/
theorem sorted_any (n b B : Nat) (L : List Nat) (w : World) (h : SI w b L) (hn : ∀ j ∈ L, j < n) (hn2 : n ≤ 64) (hB : B < w.heap.size) (hc : w.cell? ⟨B, 0, none⟩ = some (.map (some b))) :
    Calls Tryz.prog 48 #[.func (.func 68) #[] #[.pointer (some ⟨B, 0, none⟩)]] w fun e w' => ∃ v, e = .returned v ∧ w'.ownsRow w.heap.size 3 1 v (srt n L).length ((srt n L).map eI) ∧ Below w.heap.size w w' := by
  obtain ⟨hL, D, hown, hh⟩ := h
  have hsmall := MSet.small keyI hL hown hh
  obtain ⟨es, e0, hp, hk⟩ := hown.entries lawI
  have hkeys : ∀ p ∈ es, ∃ x, p.1 = .int .i64 x := by
    intro p hp'
    obtain ⟨es1, clock, hb, F, hs, hD⟩ := hown
    have e1 := hD
    rw [e0] at e1
    injection e1 with e1
    rw [e1, mem_sorted] at hp'
    obtain ⟨v, hv⟩ := fit_keys F p hp'
    obtain ⟨x, _, hx, _⟩ := Maps.keyOf_i64 Tryz.underlying3 hv
    exact ⟨x, hx⟩
  have hperm : (zs (srt n L)).Perm (intKeys D) := by
    rw [e0]
    refine perm_intKeys hp hkeys (List.pairwise_map.2 ((srt_up n L).imp fun h => by omega)) fun x => ?_
    rw [← e0]
    constructor
    · intro hx
      obtain ⟨j, hj, rfl⟩ := List.mem_map.1 hx
      rw [mem_srt] at hj
      exact (hh (eI j) _ (keyOf_int_mk Tryz.underlying3 (wfI (by omega)))).2 ⟨j, hj.2, rfl⟩
    · intro hx
      have hx' := hx
      rw [e0, has_eq, List.any_eq_true] at hx'
      obtain ⟨p, hp', hs⟩ := hx'
      obtain ⟨es1, clock, hb, F, hs1, hD⟩ := hown
      have e1 := hD
      rw [e0] at e1
      injection e1 with e1
      have hp2 := hp'
      rw [e1, mem_sorted] at hp2
      obtain ⟨v, hv⟩ := fit_keys F p hp2
      have e2 : p.1 = .int .i64 x := WideAt.sameKey_eq hs
      rw [e2] at hv
      obtain ⟨j, hj, hvj⟩ := (hh v _ hv).1 hx
      obtain ⟨x', hvx, hxx, _⟩ := Maps.keyOf_i64 Tryz.underlying3 hv
      injection hxx with _ hxx
      subst hxx
      rw [hvx] at hvj
      have : x = (j : Int) := by injection hvj
      exact List.mem_map.2 ⟨j, mem_srt.2 ⟨hn j hj, hj⟩, this.symm⟩
  have hseq : SeqGives Fence.wide 2 Tryz.prog 68 #[.pointer (some ⟨B, 0, none⟩)] encZ (fun ss => ss.Perm (intKeys D)) (Maps.size D) w :=
    AnyZI.keys_gives (ρ := Tryz.keysI_ren) { Tryz.keysI with } Fence.wide _ trivial rfl (by omega) B b _ D w hB hc hown
  have hsorts : AnyZI.SortsIn Tryz.prog Tryz.sortedI_ren Fence.wide 4 :=
    ⟨fun blk off cap ss W hH hblk hsz => callsIn_wide.2 (AnyM.slices_Sort_int Tryz.sortIM blk off cap ss W hH hblk hsz), fun p cap W => callsIn_wide.2 (AnyM.slices_Sort_int_none Tryz.sortIM p cap W)⟩
  have cS := AnyZI.sorted_in Tryz.sortedI Fence.wide 5 trivial trivial trivial trivial rfl (by omega) hsorts (enters_of Tryz.func47 (by kernel_rfl) rfl) 68 #[.pointer (some ⟨B, 0, none⟩)] trivial (enters_of Tryz.func68 (by kernel_rfl) rfl) _ _ (by unfold maxLen; omega) (by omega) _ hseq
  refine (callsIn_wide.1 cS).mono ?_
  rintro e w' ⟨v, ss, rfl, hS, hrow, _, hb⟩
  have hms := ms_eq (hS.trans hperm.symm) (zs_up n L)
  rw [hms] at hrow
  have hlen : ss.length = (srt n L).length := by rw [(hS.trans hperm.symm).length_eq, List.length_map]
  rw [hlen] at hrow
  refine ⟨v, rfl, ?_, hb⟩
  rw [map_eI]
  exact hrow
theorem keysIn_any (b : Nat) (w : World) : Calls Tryz.prog 49 #[.map (some b)] w fun e w' => e = .returned (.func (.func 68) #[] #[.pointer (some ⟨w.heap.size, 0, none⟩)]) ∧ w' = w.alloc (.cells #[.map (some b)] 89) :=
  callsIn_wide.1 (AnyZI.keys_in Tryz.keysI Fence.wide 5 trivial rfl (some b) w)
end Go.Proofs.YtchhbnnpannnhaaGreatDoor
