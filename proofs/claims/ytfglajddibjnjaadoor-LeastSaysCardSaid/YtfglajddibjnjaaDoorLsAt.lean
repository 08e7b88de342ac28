/- A machine in a block of its own; what least.Same answers, at machines that nothing is wrong with. No condition. -/
import Derived.Test.YtfglajddibjnjaaDoorLsX
namespace Go.Proofs.YtfglajddibjnjaaDoor
open Go.RowKit IntWalk
set_option linter.unusedSimpArgs false
attribute [local go_sem] byte_at str_app
attribute [local go_sem ↓] Go.wp_at_zero Go.wp_at_succ

/-- A machine in a block of its own. -/
def At3 (w : World) (g : Nat) (sg : List UInt8) (A : Option Addr) (n c : Nat) (A2 : Option Addr) (m c2 : Nat) : Prop := w.heap[g]? = some (.cells #[S sg, .slice A n c, .slice A2 m c2] 25 (0, 0))
section
variable {w w' : World} {g n c m c2 B : Nat} {sg : List UInt8} {A A2 : Option Addr}
theorem At3.lt (h : At3 w g sg A n c A2 m c2) : g < w.heap.size := (Array.getElem?_eq_some_iff.1 h).1
theorem At3.below (h : At3 w g sg A n c A2 m c2) (hb : Below B w w') (hg : g < B) : At3 w' g sg A n c A2 m c2 := (hb.block g hg).trans h
theorem At3.cells (h : At3 w g sg A n c A2 m c2) : w.cell? ⟨g, 0, none⟩ = some (S sg) ∧ w.cell? ⟨g, 1, none⟩ = some (.slice A n c) ∧ w.cell? ⟨g, 2, none⟩ = some (.slice A2 m c2) := by
  obtain ⟨a, b, c, _⟩ := three_atL h
  exact ⟨a, b, c⟩
theorem At3.new (w : World) (sg : List UInt8) (A : Option Addr) (n c : Nat) (A2 : Option Addr) (m c2 : Nat) : At3 (w.alloc (.cells #[S sg, .slice A n c, .slice A2 m c2] 25)) w.heap.size sg A n c A2 m c2 := heap_alloc_new w _
end
theorem same_least {M : Mc} (h : M.Ok) : sameB M M.least = true ∧ sameE M M.least = 0 := by
  have h1 := Mc.wrong_zero.2 h
  have h2 := Mc.wrong_zero.2 (Mc.least_ok h)
  refine ⟨decide_eq_true ⟨h1, h2, rfl, by rw [Mc.least_least h], by rw [Mc.least_least h]⟩, ?_⟩
  unfold sameE
  rw [if_neg (by omega), if_neg (by omega), if_neg (fun h => h rfl)]
theorem same_mc {M M2 : Mc} (h : M.Ok) (h2 : M2.Ok) (hs : M.sg = M2.sg) : sameB M M2 = decide (M.least = M2.least) ∧ sameE M M2 = 0 := by
  have e1 := Mc.wrong_zero.2 h
  have e2 := Mc.wrong_zero.2 h2
  refine ⟨?_, ?_⟩
  · unfold sameB
    refine decide_eq_decide.2 ⟨fun ⟨_, _, _, ht, hn⟩ => mc_ext hs hn ht, fun e => ⟨e1, e2, hs, by rw [e], by rw [e]⟩⟩
  · unfold sameE
    rw [if_neg (by omega), if_neg (by omega), if_neg (fun h => h hs)]

end Go.Proofs.YtfglajddibjnjaaDoor
