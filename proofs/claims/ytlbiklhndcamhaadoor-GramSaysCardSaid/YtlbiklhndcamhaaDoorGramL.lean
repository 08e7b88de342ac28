/- The walk over the law GramSplits, and its closed fact. -/
import Derived.Test.YtlbiklhndcamhaaDoorGramH
namespace Go.Proofs.YtlbiklhndcamhaaDoor
open Go.RowKit GramM IntWalk
attribute [local go_sem] byte_at str_app

def L0 : List Ru := [⟨83, [65, 66]⟩, ⟨65, [97]⟩, ⟨66, [98]⟩, ⟨66, [83, 66]⟩]
set_option maxRecDepth 100000 in
theorem fact_names : nms L0 [97, 98] = [83] := by decide +kernel
set_option maxRecDepth 100000 in
theorem fact_has : hasB (nms L0 [97, 97, 98, 98]) 83 = true := by decide +kernel
theorem fact_chk : chk L0 = 0 := by decide +kernel
def cs0 : Array Value := #[.int .u8 83, S [65, 66], .int .u8 65, S [97], .int .u8 66, S [98], .int .u8 66, S [83, 66]]
theorem rules0 (w : World) (t : TypeId) : Rules (w.alloc (.cells cs0 t)) (w.alloc (.cells cs0 t)).heap.size (some ⟨w.heap.size, 0, none⟩) 4 L0 := by
  refine ⟨rfl, fun _ => ⟨w.heap.size, 0, rfl, by simp, fun j hj => ?_⟩⟩
  have hc : ∀ i, (w.alloc (.cells cs0 t)).cell? ⟨w.heap.size, i, none⟩ = cs0[i]? := fun i => by
    rw [cell_of_row _ w.heap.size i cs0 t (0, 0) (heap_alloc_new w _)]
  rw [hc, hc]
  obtain rfl | rfl | rfl | rfl : j = 0 ∨ j = 1 ∨ j = 2 ∨ j = 3 := by omega
  all_goals exact ⟨rfl, rfl⟩
set_option maxRecDepth 100000 in
set_option maxHeartbeats 400000 in
theorem fact_any (w : World) :
    Calls Tryd.prog 11 #[] w fun e w' => e = .returned (.bool true) ∧ Below w.heap.size w w' := by
  go_enter Tryd.func11, Tryd.ntmps11
  go_wp2_with fail
  have hR := rules0 w 35
  have hB : Below w.heap.size w (w.alloc (.cells cs0 35)) := (Below.refl _ _).alloc (Nat.le_refl _) _
  have HR := Lib.hid hR; have HB := Lib.hid hB
  clear hR hB
  change Calls _ _ _ (w.alloc (.cells cs0 35)) _
  generalize w.alloc (.cells cs0 35) = w1 at *
  refine (Names_ok L0 [97, 98] w1 _ 4 4 (by omega) HR.out fact_chk (by decide)).mono ?_
  rw [fact_names]
  rintro e w2 ⟨rfl, hb2⟩
  have HB2 := Lib.hid (HB.out.trans (hb2.mono HB.out.size))
  have hR2 : Rules w2 w2.heap.size (some ⟨w.heap.size, 0, none⟩) 4 L0 := ⟨HR.out.1, fun hn => by
    obtain ⟨b, off, e, hb, hc⟩ := (HR.out.below hb2).2 hn
    exact ⟨b, off, e, Nat.lt_of_lt_of_le hb hb2.size, hc⟩⟩
  have HR2 := Lib.hid hR2
  clear hb2 hR2
  go_wp2_with fail
  refine (Has_ok L0 [97, 97, 98, 98] w2 _ 4 4 (by omega) HR2.out fact_chk (by decide)).mono ?_
  rw [fact_has]
  rintro e w3 ⟨rfl, hb3⟩
  have HB3 := Lib.hid (HB2.out.trans (hb3.mono HB2.out.size)); clear hb3
  go_wp2_with fail
  go_ret
  exact ⟨rfl, HB3.out⟩
end Go.Proofs.YtlbiklhndcamhaaDoor
