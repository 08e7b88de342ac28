/- The walk over the document's Catalan numbers. -/
import Derived.Test.YthhfkndhdjffgaaDoorDyckR
import Derived.IntWalk
namespace Go.Proofs.YthhfkndhdjffgaaDoor
open Go.RowKit DyckM

/-- The numbers below the k-th. -/
def cl (k : Nat) : List Int := (List.range k).map fun j : Nat => many (j : Int)
theorem cl_len (k : Nat) : (cl k).length = k := by simp [cl]
theorem cl_at {k i : Nat} (h : i < k) : gi (cl k) i = many (i : Int) := by
  rw [gi_eq (by rw [cl_len]; exact h)]; simp [cl]
theorem cl_succ (k : Nat) : cl (k + 1) = cl k ++ [many (k : Int)] := by simp [cl, List.range_succ]
theorem info_int : (Tryd.prog.info? 3).map (fun i => (i.zero, i.size, i.bytes)) = some (some (.int .i64 0), 1, 8) := by kernel_rfl
theorem catSum_step {f n : Nat} {s T : Int} (h : catSum (f + 1) n s = T) (i : Nat) (hi : i + (f + 1) = n) : catSum f n (s + many (i : Int) * many (f : Int)) = T := by
  unfold catSum at h
  rwa [show n - (f + 1) = i from by omega] at h

set_option maxRecDepth 100000 in
set_option maxHeartbeats 2000000 in
theorem catalan_any (n : Nat) (w : World) (h8 : n ≤ 8) :
    Calls Tryd.prog 10 #[.int .i64 (n : Int)] w fun e w' => e = .returned (.int .i64 (many (n : Int))) ∧ Below w.heap.size w w' := by
  obtain ⟨i0, hi0, hz0, hz1, hz2⟩ := info_parts info_int
  go_enter Tryd.func10, Tryd.ntmps10
  go_wp2_with fail
  go_loopg [3, 4] n (fun f cv kv wr => ∃ k : Nat, ∃ A : Option Addr, ∃ c : Nat, k + f = n + 1 ∧ 1 ≤ k ∧ cv = .slice A k c ∧ k ≤ c ∧ kv = .int .i64 k ∧ Below w.heap.size w wr ∧ wr.ownsRow w.heap.size 3 1 (.slice A k c) k ((cl k).map (Value.int .i64)))
  case atStart =>
    refine ⟨1, _, _, by omega, by omega, rfl, by omega, rfl, (Below.refl _ _).alloc (Nat.le_refl _) _, ?_⟩
    exact World.ownsRow_lit w #[.int .i64 1] 1 (Nat.le_refl _) (by simp [maxLen]) rfl
  case round =>
    obtain ⟨k, A, c, hkf, hk1, rfl, hkc, rfl, hB, hown⟩ := hrel
    have hAi := Ints.of_own hown
    by_cases hlt : k ≤ n
    · obtain ⟨f, rfl⟩ : ∃ f, gk = f + 1 := ⟨gk - 1, by omega⟩
      have HC := Lib.hid (catalan_ k (by omega) (by omega))
      obtain ⟨hK1, hK2⟩ := many_le k (by omega)
      generalize hKK : many (k : Int) = K at *
      have HK := Lib.hid hKK; clear hKK
      have HB := Lib.hid hB; clear hB
      have Hown := Lib.hid hown; clear hown
      go_wp2_with fail
      obtain ⟨w1, rfl⟩ : ∃ w1 : World, w1 = wr := ⟨_, rfl⟩
      go_loopg [5, 6] k (fun q sv iv wr => ∃ i : Nat, ∃ s : Int, i + q = k ∧ sv = .int .i64 s ∧ iv = .int .i64 i ∧ 0 ≤ s ∧ s ≤ 4000000 * i ∧ (∃ d, w1.drewN d = wr) ∧ catSum q k s = K)
      case atStart => exact ⟨0, 0, by omega, rfl, rfl, by omega, by omega, ⟨0, rfl⟩, HC.out⟩
      case round =>
        obtain ⟨i, s, hiq, rfl, rfl, hs0, hs1, ⟨d, rfl⟩, hT⟩ := hrel
        by_cases hlt2 : i < k
        · obtain ⟨q, rfl⟩ : ∃ q, gk = q + 1 := ⟨gk - 1, by omega⟩
          obtain ⟨b, off, hAe, hb, hc1⟩ := hAi.at_ hlt2
          obtain ⟨b', off', hAe', _, hc2⟩ := hAi.at_ (show q < k by omega)
          subst hAe
          injection hAe' with hAe'; injection hAe' with e1 e2 e3; subst e1 e2
          rw [cl_at hlt2] at hc1
          rw [cl_at (by omega)] at hc2
          have HT := Lib.hid (catSum_step hT i hiq); clear hT
          obtain ⟨a1, a2⟩ := many_le i (by omega)
          obtain ⟨b1, b2⟩ := many_le q (by omega)
          have hm1 : 0 ≤ many (i : Int) * many (q : Int) := Int.mul_nonneg (by omega) (by omega)
          have hm2 : many (i : Int) * many (q : Int) ≤ 4000000 := by
            have := Int.mul_le_mul a2 b2 (by omega) (by omega : (0:Int) ≤ 2000); omega
          have z1 : (0 : Int) ≤ q ∧ (q : Int) < k := by omega
          have wa : IntKind.i64.wrap ((k : Int) - 1) = (k : Int) - 1 := IntWalk.i64_in _ (by omega)
          have wb : IntKind.i64.wrap ((k : Int) - 1 - (i : Int)) = (q : Int) := by rw [IntWalk.i64_in _ (by omega)]; omega
          have wc : IntKind.i64.wrap (many (i : Int) * many (q : Int)) = many (i : Int) * many (q : Int) := IntWalk.i64_in _ (by omega)
          have wd : IntKind.i64.wrap (s + many (i : Int) * many (q : Int)) = s + many (i : Int) * many (q : Int) := IntWalk.i64_in _ (by omega)
          clear hAi
          go_wp2_with fail
          go_quiet (fail)
          clear wa wb wc wd
          go_wp2_with fail
          go_roundg q
          case measure => omega
          case rel => exact ⟨i + 1, s + many (i : Int) * many (q : Int), by omega, rfl, by simp, by omega, by omega, ⟨_, rfl⟩, HT.out⟩
        · obtain rfl : gk = 0 := by omega
          have hs : s = K := hT
          subst hs
          have hown : (w1.drewN d).ownsRow w.heap.size 3 1 (.slice A k c) ((cl k).map (Value.int .i64)).length ((cl k).map (Value.int .i64)) := by
            have h : w1.ownsRow w.heap.size 3 1 (.slice A k c) ((cl k).map (Value.int .i64)).length ((cl k).map (Value.int .i64)) := by
              rw [List.length_map, cl_len]; exact Hown.out
            exact h
          have hbs : w.heap.size ≤ (w1.drewN d).heap.size := HB.out.size
          have HB2 : Hid (Below w.heap.size w (w1.drewN d)) := Lib.hid (below_drewN HB.out d)
          have Hown2 := Lib.hid hown
          clear hown hAi HB Hown
          generalize w1.drewN d = w2 at *
          go_wp2_with (at_builtin; refine wpList_append1 rfl (.tmp 32) (.tmp 34) _ rfl 3 i0 _ Tryd.underlying41 hi0 hz0 hz1 (by omega) rfl w.heap.size _ ((cl k).map (Value.int .i64)) (.int .i64 s) rfl rfl rfl Hown2.out (by rw [List.length_map, cl_len]; omega) hbs ?_; intro v' w' hown' hB')
          have hown2 : w'.ownsRow w.heap.size 3 1 v' (k + 1) ((cl (k + 1)).map (Value.int .i64)) := by
            rw [cl_succ, HK.out]; simpa [cl_len] using hown'
          obtain ⟨A', c', rfl, hkc'⟩ := own_shape hown2
          go_roundg f
          case measure => omega
          case rel => exact ⟨k + 1, A', c', by omega, by omega, rfl, hkc', by simp, HB2.out.trans hB', hown2⟩
    · obtain rfl : k = n + 1 := by omega
      obtain ⟨b, off, hAe, hb, hc1⟩ := hAi.at_ (show n < n + 1 by omega)
      rw [cl_at (by omega)] at hc1
      subst hAe
      have HB := Lib.hid hB; clear hB
      clear hown hAi
      go_wp2_with fail
      go_ret
      exact ⟨rfl, HB.out⟩
end Go.Proofs.YthhfkndhdjffgaaDoor
