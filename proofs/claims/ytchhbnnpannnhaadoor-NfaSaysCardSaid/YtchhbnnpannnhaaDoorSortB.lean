/- slices.Sort of at most twelve bytes, slices.Compact of bytes: the library's own text, walked (after the kit's Sort/WalkA and Shelf/SlicesE/Compact, turned to bytes). No condition. -/
import Derived.Test.YtchhbnnpannnhaaDoorRegS
import Derived.Test.YtchhbnnpannnhaaDoorWords
import Derived.Sort.WalkA
import Derived.Sort.WalkB12
import Derived.Deep.LoopGhost
import Derived.Lib.Walk
import Derived.Lib.SliceRun
import Derived.Lib.SlicesCompact
import Derived.Shelf.RegionOpenPlain
import Derived.Shelf.SlicesE.Compact
namespace Go.Proofs.YtchhbnnpannnhaaDoor
open Go.RowKit Go.Lib Go.Sort IntWalk

abbrev encB : UInt8 → Value := fun c => .int .u8 (c.toNat : Int)
def ltB (x y : UInt8) : Bool := decide (x.toNat < y.toNat)
theorem swoB : SWO ltB where
  irrefl x := by unfold ltB; simp
  trans x y z h1 h2 := by unfold ltB at *; simp at *; omega
  ntrans x y z h1 h2 := by unfold ltB at *; simp at *; omega
set_option maxRecDepth 100000 in
set_option maxHeartbeats 1000000 in
theorem len64_any (n : Nat) (hn : n ≤ 12) (w : World) : Calls Tryd.prog 55 #[.int .u64 (n : Int)] w fun e w' => (∃ k, e = .returned (.int .i64 k)) ∧ w' = w := by
  have p1 : ¬ (4294967296 : Int) ≤ (n : Int) := by omega
  have p2 : ¬ (65536 : Int) ≤ (n : Int) := by omega
  have p3 : ¬ (256 : Int) ≤ (n : Int) := by omega
  have p4 : IntKind.u8.wrap (n : Int) = (n : Int) := by unfold IntKind.wrap; simp [IntKind.bits]; omega
  have p5 : (0 : Int) ≤ (n : Int) := by omega
  have p6 : (n : Int) < 256 := by omega
  have p7 : n < 256 := by omega
  go_enter Tryd.func55, Tryd.ntmps55
  go_wp2_with fail
  go_ret
  exact ⟨⟨_, rfl⟩, rfl⟩
set_option maxHeartbeats 400000 in
theorem len_any (n : Nat) (hn : n ≤ 12) (w : World) : Calls Tryd.prog 36 #[.int .u64 (n : Int)] w fun e w' => (∃ k, e = .returned (.int .i64 k)) ∧ w' = w := by
  have h1 := len64_any n hn w
  go_enter Tryd.func36, Tryd.ntmps36
  go_wp2_with fail
  refine h1.mono ?_
  rintro e w' ⟨⟨k, rfl⟩, rfl⟩
  go_wp2_with fail
  go_ret
  exact ⟨⟨k, rfl⟩, rfl⟩
theorem same_dec (x y : UInt8) : ((x.toNat : Int) == (y.toNat : Int)) = decide (x = y) := by
  by_cases h : x = y
  · subst h; simp
  · have : ¬ x.toNat = y.toNat := fun e => h (UInt8.toNat_inj.1 e)
    simp [h]; omega
theorem oneB : OneCell encB := fun _ => rfl
end Go.Proofs.YtchhbnnpannnhaaDoor
