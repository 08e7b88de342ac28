/- strings.Builder's WriteByte by contract, at a builder that the call itself has made. Condition: what is held stays below 1000000 bytes. -/
import Derived.Test.YtgmmlblefealjaaDoorBuild
namespace Go.Proofs.YtgmmlblefealjaaDoor
open Go.RowKit
set_option maxHeartbeats 1000000 in
set_option maxRecDepth 100000 in
theorem writeByte_any (B b : Nat) (l : List UInt8) (c : UInt8) (w : World) (h : Lib.IsBuilder 49 5 B b (Lib.byteCells l) w) (hlen : l.length ≤ 900000) (hBw : B ≤ w.heap.size) :
    Calls Tryd.prog 21 #[.pointer (some ⟨b, 0, none⟩), .int .u8 (c.toNat : Int)] w fun e w' => e = .returned .nilIface ∧ Lib.IsBuilder 49 5 B b (Lib.byteCells (l ++ [c])) w' ∧ Below B w w' ∧ Keeps w w' := by
  obtain ⟨i0, hi, hz0, hz1, hz2⟩ := info_parts info_byte
  go_enter Tryd.func21, Tryd.ntmps21
  go_wp2_with fail
  refine (copyCheck_any B b _ w h).mono ?_
  rintro e w1 ⟨rfl, ⟨hB, v, hbk, hown, hne⟩, hb1, hkp1⟩
  have hlt : b < w1.heap.size := Lib.BuilderAt.lt ⟨hB, v, hbk, hown, hne⟩
  have c0 : w1.cell? ⟨b, 0, none⟩ = some (.pointer (some ⟨b, 0, none⟩)) := by rw [Lib.cell_of_heap hbk]; rfl
  have c1 : w1.cell? ⟨b, 1, none⟩ = some v := by rw [Lib.cell_of_heap hbk]; rfl
  have hwn := hown.alloc (.cells #[.int .u8 (c.toNat : Int)] 5)
  go_wp2_with (at_builtin; refine wpList_append_own _ rfl _ _ 47 rfl B 5 i0 (.int .u8 0) 1 1 Tryd.underlying47 hi hz0 hz1 hz2 rfl (by decide) _ _ _ rfl (hown.alloc _) ⟨w1.heap.size, 0, none⟩ 1 1 [.int .u8 (c.toNat : Int)] rfl rfl ?c1 ?c2 ?c3 ?c4 ?c5 ?_)
  case c1 =>
    intro j u' hj
    match j, hj with
    | 0, hj =>
      have : (Value.int .u8 (c.toNat : Int)) = u' := by simpa using hj
      subst this
      simp [Addr.add, World.cell?_alloc_new]
  case c2 => intro u' hu'; simp at hu'; subst hu'; rfl
  case c3 => simp only [maxLen, Lib.byteCells_length]; omega
  case c4 => simp only [Lib.byteCells_length]; omega
  case c5 => have := hb1.size; simp; omega
  intro v' w2 hown' hgrow _
  have hlt' : b < (w1.alloc (.cells #[.int .u8 (c.toNat : Int)] 5)).heap.size := by simp; omega
  have hb2 : w2.heap[b]? = some (.cells #[.pointer (some ⟨b, 0, none⟩), v] 49 (0, 0)) := by
    rw [hgrow.block b hlt' (fun e => hne e.symm), Below.heap_alloc w1 _ b hlt]
    exact hbk
  have d0 : w2.cell? ⟨b, 0, none⟩ = some (.pointer (some ⟨b, 0, none⟩)) := by rw [Lib.cell_of_heap hb2]; rfl
  have d1 : w2.cell? ⟨b, 1, none⟩ = some v := by rw [Lib.cell_of_heap hb2]; rfl
  have f1 : w2.frozen? ⟨b, 1, none⟩ = false := Lib.frozen_of_heap hb2 1
  obtain ⟨ao, cap, rfl, _⟩ := own_shape hown'
  have hcs : Lib.byteCells l ++ [.int .u8 (c.toNat : Int)] = Lib.byteCells (l ++ [c]) := by simp [Lib.byteCells]
  have HB : Hid (Lib.IsBuilder 49 5 B b (Lib.byteCells (l ++ [c])) (w2.setCell ⟨b, 1, none⟩ (.slice ao ((Lib.byteCells l).length + 1) cap))) :=
    .inr (Lib.BuilderAt.put (T := 49) (e := 5) hB hb2 (bs' := Lib.byteCells (l ++ [c])) (by rw [← hcs, List.length_append]; exact hown') (by decide))
  have HW : Hid (Below B w (w2.setCell ⟨b, 1, none⟩ (.slice ao ((Lib.byteCells l).length + 1) cap))) :=
    ((hb1.alloc (by have := hb1.size; omega) _).grown hgrow (by have := hb1.size; simp; omega) (fun k hk => (hown.lt k hk).1)).setCell (p := ⟨b, 1, none⟩) hB _
  have HKP : Hid (Keeps w (w2.setCell ⟨b, 1, none⟩ (.slice ao ((Lib.byteCells l).length + 1) cap))) := by
    refine hkp1.trans (Keeps.trans (b := w2) ?_ (Keeps.set_ (n := 2) (by simp [World.shape?, hb2])))
    intro g cs t fr hg _ h2
    have hlg : g < w1.heap.size := (Array.getElem?_eq_some_iff.1 hg).1
    have hg' : (w1.alloc (.cells #[.int .u8 (c.toNat : Int)] 5)).heap[g]? = some (.cells cs t fr) := (Below.heap_alloc w1 _ g hlg).trans hg
    rw [hgrow.block g (by simp; omega) (fun e => by
      obtain ⟨cs', fr', h'⟩ := own_type hwn e.symm
      rw [hg'] at h'; injection h' with h'; injection h' with _ h' _; exact h2 h')]
    exact hg'
  clear hcs hown hown' hbk hb2 hne hgrow hkp1 hwn
  go_wp2
  go_ret
  exact ⟨rfl, HB.out, HW.out, HKP.out⟩
/-- The same, the byte as the walk spells it. -/
theorem writeByte_lit (B b : Nat) (l : List UInt8) (c : UInt8) (v : Int) (hv : (c.toNat : Int) = v) (w : World) (h : Lib.IsBuilder 49 5 B b (Lib.byteCells l) w) (hlen : l.length ≤ 900000) (hBw : B ≤ w.heap.size) :
    Calls Tryd.prog 21 #[.pointer (some ⟨b, 0, none⟩), .int .u8 v] w fun e w' => e = .returned .nilIface ∧ Lib.IsBuilder 49 5 B b (Lib.byteCells (l ++ [c])) w' ∧ Below B w w' ∧ Keeps w w' := by
  subst hv
  exact writeByte_any B b l c w h hlen hBw
end Go.Proofs.YtgmmlblefealjaaDoor
