/- The document's Letters and Signs: their walks. No condition. -/
import Derived.Test.YtchhbnnpannnhaaDoorRegW
import Derived.Test.YtchhbnnpannnhaaDoorRegS
import Derived.Lib.Strings
namespace Go.Proofs.YtchhbnnpannnhaaDoor
open Go.RowKit IntWalk
attribute [local go_sem] byte_at str_app

theorem str_one {a : List UInt8} {i : Nat} (h : i < a.length) : (ByteArray.mk a.toArray).extract i (i + 1) = ByteArray.mk [bu a i].toArray := by
  rw [Lib.extract_eq, show i + 1 - i = 1 by omega, List.drop_eq_getElem_cons h, bu_eq h]; rfl
theorem lets_step {s : List UInt8} {i : Nat} (h : i < s.length) : lets (s.take (i + 1)) = if isLo (bu s i) = true then lets (s.take i) ++ [bu s i] else lets (s.take i) := by
  rw [take_succ_bu h, lets_app]
  by_cases hl : isLo (bu s i) = true
  · rw [if_pos hl]; simp [lets, hl]
  · rw [if_neg hl]; simp [lets, hl]
theorem lets_len (s : List UInt8) : (lets s).length ≤ s.length := List.length_filter_le _ _
end Go.Proofs.YtchhbnnpannnhaaDoor
