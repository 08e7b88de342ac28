/- The iterator core.Ends by its contract (after the kit's worked text Test/GgSlicesIterAtTheDump, turned to a text's ends). -/
import Derived.RangeFuncNested
import Derived.RangeFuncBound
import Derived.RangeFuncCalls
import Derived.RangeFuncLeaves
import Derived.RangeFuncBox
import Derived.Shelf.Abstract
import Derived.Shelf.RegionOpen
import Derived.WalkKit
import Derived.OwnWalkIn
import Derived.TacticsInMore
import Derived.LoopNIn
import Derived.LoopIn
import Derived.Test.YtaoppfcniifjhaaDoorWords
import Derived.Lib.Strings
namespace Go.Proofs.YtaoppfcniifjhaaDoor
open Go.RowKit Go.Shelf
attribute [local go_sem] Oper.semAt_some

abbrev S (l : List UInt8) : Value := .string ⟨l.toArray⟩
theorem str_from (a : List UInt8) (k : Nat) : (ByteArray.mk a.toArray).extract k a.length = ByteArray.mk (a.drop k).toArray := by
  rw [Lib.extract_eq]
  simp [List.take_of_length_le]

set_option maxRecDepth 100000 in
set_option maxHeartbeats 1000000 in
theorem ends1_in (F : Fence) (n : Nat) (hf : F.fn 20) (hro : F.round = none) (hn : 1 ≤ n) (lp Bs n₀ : Nat) (l : List UInt8) (hB : Bs < n₀) (hl : l.length ≤ 9223372036854775807) (J Jx : List Nat → World → Prop)
    (hY : ∀ (pre : List Nat) (x : Nat) (W : World), J pre W → pre.length < l.length → YieldAt F (n - 1) Tryd.prog lp #[.int .i64 (x : Int), S (l.drop x)] W fun e W' =>
      (e = .returned (.bool true) ∧ J (pre ++ [x]) W' ∧ Below n₀ W W') ∨ (e = .returned (.bool false) ∧ Jx (pre ++ [x]) W'))
    (W : World) (hBs : W.cell? ⟨Bs, 0, none⟩ = some (S l)) (h0 : J [] W) :
    CallsIn F n Tryd.prog 20 #[.func (.yield lp) #[] #[], .pointer (some ⟨Bs, 0, none⟩)] W fun e W' => (∃ v, e = .returned v) ∧
      ((∃ ys, ys = List.range l.length ∧ J ys W') ∨ (∃ pre, (∃ k, k ≤ l.length ∧ pre = List.range k) ∧ Jx pre W')) := by
  refine callsIn_of_wp Tryd.func20 rfl hf ?_ hro
  simp only [Tryd.ntmps20, List.size_toArray, List.length_cons, List.length_nil, Nat.reduceAdd, Nat.reduceSub, Array.replicate_succ, Array.replicate_zero, List.push_toArray, List.append_toArray, List.nil_append, List.cons_append]
  gi_wp2
  gi_loopw [6] (fun i wr => ∃ k : Nat, k ≤ l.length ∧ i = .int .i64 k ∧ J (List.range k) wr ∧ Below n₀ W wr)
    (fun i _ => l.length - (intOf i).toNat)
  case atStart => exact ⟨0, Nat.zero_le _, rfl, h0, Below.refl _ _⟩
  case round =>
    obtain ⟨k, hk, rfl, hJs, hnx⟩ := hrel
    have hcx : wr.cell? ⟨Bs, 0, none⟩ = some (S l) := (hnx.cell (p := ⟨Bs, 0, none⟩) hB).trans hBs
    by_cases hlt : k < l.length
    · obtain ⟨fn, tmps, assign, body, hy, hR⟩ := hY _ k wr hJs (by rw [List.length_range]; exact hlt)
      have hx := str_from l k
      gi_wp2
      refine hR.mono ?_
      rintro e W3 (⟨rfl, hJ3, hk3⟩ | ⟨rfl, hJx3⟩)
      · gi_wp2
        go_roundw
        case rel => exact ⟨k + 1, by omega, by simp, by rw [List.range_succ]; exact hJ3, hnx.trans hk3⟩
        case measure => simp [intOf]; omega
      · gi_wp2
        refine bodyPost_ret (results_none rfl _ _ _) rfl ?_
        exact ⟨⟨_, rfl⟩, .inr ⟨_, ⟨k + 1, by omega, List.range_succ.symm⟩, hJx3⟩⟩
    · obtain rfl : k = l.length := by omega
      gi_wp2
      go_end0
      exact ⟨⟨_, rfl⟩, .inl ⟨_, rfl, hJs⟩⟩

set_option maxHeartbeats 1000000 in
theorem ends_in (F : Fence) (n : Nat) (hf : F.fn 17) (hro : F.round = none) (l : List UInt8) (w : World) :
    CallsIn F n Tryd.prog 17 #[S l] w fun e w' => e = .returned (.func (.func 20) #[] #[.pointer (some ⟨w.heap.size, 0, none⟩)]) ∧ w' = w.alloc (.cells #[S l] 9) := by
  refine callsIn_of_wp Tryd.func17 rfl hf ?_ hro
  simp only [Tryd.ntmps17, List.size_toArray, List.length_cons, List.length_nil, Nat.reduceAdd, Nat.reduceSub, Array.replicate_succ, Array.replicate_zero, List.push_toArray, List.append_toArray, List.nil_append, List.cons_append]
  gi_wp2
  go_ret
  exact ⟨rfl, rfl⟩

theorem ends_stops (F : Fence) (n : Nat) (hf : F.fn 20) (hro : F.round = none) (hn : 1 ≤ n) (Bs n₀ : Nat) (l : List UInt8) (hl : l.length ≤ 9223372036854775807) (w : World) (hBs : Bs < w.heap.size) (hBn : Bs < n₀)
    (hc : w.cell? ⟨Bs, 0, none⟩ = some (S l)) :
    SeqStopsK F n Tryd.prog 20 #[.pointer (some ⟨Bs, 0, none⟩)] (fun x : Nat => #[Value.int .i64 (x : Int), S (l.drop x)]) (Below n₀) (fun ys => ys = List.range l.length)
      (fun pre => ∃ k, k ≤ l.length ∧ pre = List.range k) l.length w := fun lp J Jx W hW _ _ hY h0 =>
  ends1_in F n hf hro hn lp Bs n₀ l hBn hl J Jx hY W ((hW.cell (p := ⟨Bs, 0, none⟩) hBs).trans hc) h0
end Go.Proofs.YtaoppfcniifjhaaDoor
