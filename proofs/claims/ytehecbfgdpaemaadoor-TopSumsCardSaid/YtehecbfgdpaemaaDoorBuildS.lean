/- strings.Builder's WriteString by contract, at a builder that the call itself has made. Condition: what is held stays below 1000000 bytes. -/
import Derived.Test.YtehecbfgdpaemaaDoorBuild
namespace Go.Proofs.YtehecbfgdpaemaaDoor
open Go.RowKit
set_option maxHeartbeats 1000000 in
set_option maxRecDepth 100000 in
theorem writeString_any (B b : Nat) (l s : List UInt8) (w : World) (h : Lib.IsBuilder 45 5 B b (Lib.byteCells l) w) (hlen : l.length + s.length ≤ 1000000) (hBw : B ≤ w.heap.size) :
    Calls Tryd.prog 27 #[.pointer (some ⟨b, 0, none⟩), .string ⟨s.toArray⟩] w fun e w' => e = .returned (.tuple #[.int .i64 s.length, .nilIface]) ∧ Lib.IsBuilder 45 5 B b (Lib.byteCells (l ++ s)) w' ∧ Below B w w' ∧ Keeps w w' := by
  obtain ⟨i0, hi, hz0, hz1, hz2⟩ := info_parts info_byte
  go_enter Tryd.func27, Tryd.ntmps27
  go_wp2_with fail
  refine (copyCheck_any B b _ w h).mono ?_
  rintro e w1 ⟨rfl, ⟨hB, v, hbk, hown, hne⟩, hb1, hkp1⟩
  have hwn := hown
  have hlt : b < w1.heap.size := Lib.BuilderAt.lt ⟨hB, v, hbk, hown, hne⟩
  have c0 : w1.cell? ⟨b, 0, none⟩ = some (.pointer (some ⟨b, 0, none⟩)) := by rw [Lib.cell_of_heap hbk]; rfl
  have c1 : w1.cell? ⟨b, 1, none⟩ = some v := by rw [Lib.cell_of_heap hbk]; rfl
  go_wp2_with (at_builtin; refine Lib.wpList_append_own_string _ rfl _ _ 43 9 rfl B 5 i0 Tryd.underlying43 Tryd.underlying9 hi hz0 hz1 hz2 _ _ _ rfl hown ⟨s.toArray⟩ rfl ?c3 ?c4 ?c5 ?_)
  case c3 => simp only [maxLen, Lib.byteCells_length, ByteArray.size, List.size_toArray]; omega
  case c4 => simp only [Lib.byteCells_length, ByteArray.size, List.size_toArray]; omega
  case c5 => have := hb1.size; omega
  intro v' w2 hown' hgrow _
  have hb2 : w2.heap[b]? = some (.cells #[.pointer (some ⟨b, 0, none⟩), v] 45 (0, 0)) := by
    rw [hgrow.block b hlt (fun e => hne e.symm)]
    exact hbk
  have d0 : w2.cell? ⟨b, 0, none⟩ = some (.pointer (some ⟨b, 0, none⟩)) := by rw [Lib.cell_of_heap hb2]; rfl
  have d1 : w2.cell? ⟨b, 1, none⟩ = some v := by rw [Lib.cell_of_heap hb2]; rfl
  have f1 : w2.frozen? ⟨b, 1, none⟩ = false := Lib.frozen_of_heap hb2 1
  have hsz : (ByteArray.mk s.toArray).size = s.length := by simp [ByteArray.size]
  obtain ⟨ao, cap, rfl, _⟩ := own_shape hown'
  have hcs : Lib.byteCells l ++ Lib.strCells ⟨s.toArray⟩ = Lib.byteCells (l ++ s) := by simp [Lib.byteCells, Lib.strCells]
  have HB : Hid (Lib.IsBuilder 45 5 B b (Lib.byteCells (l ++ s)) (w2.setCell ⟨b, 1, none⟩ (.slice ao ((Lib.byteCells l).length + s.length) cap))) :=
    .inr (Lib.BuilderAt.put (T := 45) (e := 5) hB hb2 (bs' := Lib.byteCells (l ++ s)) (by rw [← hcs, List.length_append, Lib.strCells_length, hsz]; exact hown') (by decide))
  have HW : Hid (Below B w (w2.setCell ⟨b, 1, none⟩ (.slice ao ((Lib.byteCells l).length + s.length) cap))) :=
    (hb1.grown hgrow (by have := hb1.size; omega) (fun k hk => (hown.lt k hk).1)).setCell (p := ⟨b, 1, none⟩) hB _
  have HKP : Hid (Keeps w (w2.setCell ⟨b, 1, none⟩ (.slice ao ((Lib.byteCells l).length + s.length) cap))) := by
    refine hkp1.trans (Keeps.trans (b := w2) ?_ (Keeps.set_ (n := 2) (by simp [World.shape?, hb2])))
    intro g cs t fr hg _ h2
    have hlg : g < w1.heap.size := (Array.getElem?_eq_some_iff.1 hg).1
    rw [hgrow.block g hlg (fun e => by
      obtain ⟨cs', fr', h'⟩ := own_type hwn e.symm
      rw [hg] at h'; injection h' with h'; injection h' with _ h' _; exact h2 h')]
    exact hg
  clear hcs hown hown' hbk hb2 hne hgrow hkp1 hwn
  go_wp2
  go_ret2
  exact ⟨rfl, HB.out, HW.out, HKP.out⟩
end Go.Proofs.YtehecbfgdpaemaaDoor
