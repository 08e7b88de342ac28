/- The walks over the document's best and full lines, and over the law LinesSays. Condition of the last: errors.errorType reads as the handle of the type error. -/
import Derived.Test.YtikkcjclhalhgaaDoorLinesR
namespace Go.Proofs.YtikkcjclhalhgaaDoor
open Go.RowKit LinesM

/-- The largest line that fits and leaves as much as is told is the one that the table names. -/
theorem pick_spec {wide : Int} {l : List Int} (hw : ∀ x ∈ l, 1 ≤ x ∧ x ≤ wide) {i : Nat} (hi : i < l.length) : ∃ t : Nat, gi (tables wide l).2 i = t ∧ 1 ≤ t ∧ i + t ≤ l.length ∧ 0 ≤ rm wide l i t ∧ C wide l (i + t) + term wide l i t = C wide l i ∧
    ∀ k, i + t < k → k ≤ l.length → ¬ (0 ≤ rm wide l i (k - i) ∧ C wide l k + term wide l i (k - i) = C wide l i) := by
  obtain ⟨t, a1, a2, a3, a4, a5, a6, a7⟩ := C_row hw i hi
  refine ⟨t, a1, a2, a3, a4, by unfold C; omega, fun k h1 h2 h3 => ?_⟩
  have := a7 (k - i) (by omega) (by omega) h3.1
  rw [show i + (k - i) = k from by omega] at this
  have h4 := h3.2
  unfold C at h4
  omega

theorem best_step {wide : Int} {l : List Int} {n i k f : Nat} {x : Int} {acc T : List Int} (hln : l.length = n) (hi : i < n) (hx : gi (tables wide l).2 i = x) (hk : k = i + x.toNat) (h : out (tables wide l).2 l.length (f + 1) i acc = T) :
    out (tables wide l).2 l.length f k (acc ++ [x]) = T := by
  subst hln hk hx
  rw [← h]
  conv => rhs; unfold out
  rw [if_pos hi]

set_option maxRecDepth 100000 in
set_option maxHeartbeats 2000000 in
theorem rbest_any (wide : Int) (A : Option Addr) (n c : Nat) (l : List Int) (w : World) (hA : Ints w w.heap.size A n l) (hw0 : 0 ≤ wide) (hw1 : wide ≤ 30) (hn : n ≤ 20) (hnc : n ≤ c)
    (hl : ∀ x ∈ l, 1 ≤ x ∧ x ≤ wide) :
    Calls Tryd.prog 7 #[.int .i64 wide, .slice A n c] w fun e w' => ∃ v, e = .returned v ∧ Res w w' v (best wide l) := by
  obtain ⟨i0, hi0, hz0, hz1, hz2⟩ := info_parts info_int
  have hln := hA.1
  have HL := Lib.hid hl; clear hl
  go_enter Tryd.func7, Tryd.ntmps7
  go_wp2_with fail
  refine (rcosts_any wide A n c l w hA hw0 hw1 hn hnc HL.out).mono ?_
  rintro e w0 ⟨g, cs, rfl, hR⟩
  obtain ⟨r1, r2, r3, r4, r5⟩ := hR
  have hA0 := (hA.below r1).more (B' := w0.heap.size) r1.size
  have HB0 := Lib.hid r1
  have HG := Lib.hid r2
  have HC := Lib.hid r5
  have hg := r2.lt
  have hsz := r1.size
  clear r1 r2 r5 hA
  go_wp2_with fail
  go_loopg [7, 8] n (fun f v iv wr => ∃ i : Nat, ∃ acc : List Int, i ≤ n ∧ acc.length ≤ i ∧ iv = .int .i64 i ∧ Below w0.heap.size w0 wr ∧ wr.ownsRow w0.heap.size 3 1 v (acc.map (Value.int .i64)).length (acc.map (Value.int .i64)) ∧
           n ≤ i + f ∧ out (tables wide l).2 l.length f i acc = best wide l)
  case atStart => exact ⟨0, [], Nat.zero_le _, Nat.le_refl _, rfl, Below.refl _ _, World.ownsRow_nil _ _ _ _, by omega, by subst hln; rfl⟩
  case round =>
    obtain ⟨i, acc, hi, hacc, rfl, hB, hown, hkf, hT⟩ := hrel
    have HT := Lib.hid hT; clear hT
    have Hown := Lib.hid hown; clear hown
    by_cases hlt : i < n
    · obtain ⟨f, rfl⟩ : ∃ f, gk = f + 1 := ⟨gk - 1, by omega⟩
      obtain ⟨t, p1, p2, p3, p4, p5, p6⟩ := pick_spec HL.out (i := i) (by omega)
      have P1 := Lib.hid p1
      have P4 := Lib.hid p4
      have P5 := Lib.hid p5
      have P6 := Lib.hid p6
      clear p1 p4 p5 p6
      have hbi := C_bd HL.out hw1 l.length i (by omega) (by omega)
      have hci := blk_ints (HG.out.below hB hg) (j := i) (by omega)
      rw [HC.out i (by omega) (by omega)] at hci
      rw [hln] at hbi
      go_wp2_with fail
      obtain ⟨w1, rfl⟩ : ∃ w1 : World, w1 = wr := ⟨_, rfl⟩
      go_loopg [9] n (fun q kv wr => ∃ k : Nat, k = q ∧ i + t ≤ k ∧ k ≤ n ∧ kv = .int .i64 k ∧ w1 = wr ∧ ∀ k', k < k' → k' ≤ n → ¬ (0 ≤ rm wide l i (k' - i) ∧ C wide l k' + term wide l i (k' - i) = C wide l i))
      case atStart => exact ⟨n, rfl, by omega, Nat.le_refl _, rfl, rfl, fun k' h1 h2 => by omega⟩
      case round =>
        obtain ⟨k, rfl, hk1, hk2, rfl, rfl, hall⟩ := hrel
        have HAll := Lib.hid hall; clear hall
        have hcut : Ints w1 w0.heap.size (Option.map (fun x => x.add i) A) (k - i) ((l.drop i).take (k - i)) :=
          (hA0.below hB).cut (i := i) (j := k) (by omega) (by omega) (A' := A.map (·.add i)) (fun _ => rfl)
        have hlk : ∀ x ∈ (l.drop i).take (k - i), 0 ≤ x ∧ x ≤ 30 := fun x hx => (fun h => ⟨by omega, by omega⟩ : 1 ≤ x ∧ x ≤ wide → 0 ≤ x ∧ x ≤ 30) (HL.out x (List.mem_of_mem_drop (List.mem_of_mem_take hx)))
        go_wp2_with fail
        refine (room_any wide _ _ _ _ w1 _ hcut hw0 hw1 (by omega) hlk).mono ?_
        rintro e w' ⟨rfl, rfl⟩
        have hroom1 : left wide ((l.drop i).take (k - i)) ≤ 30 := left_le wide _ hlk (by simp; omega) hw1
        have hroom2 := (left_bd wide _ hlk (k - i)).2
        rw [List.take_take, Nat.min_self] at hroom2
        clear hcut hlk
        generalize hroom : left wide ((l.drop i).take (k - i)) = room at *
        have HRm : Hid (rm wide l i (k - i) = room) := hroom
        clear hroom
        have hck := blk_ints (HG.out.below hB hg) (j := k) (by omega)
        rw [HC.out k (by omega) (by omega)] at hck
        have hbk := C_bd HL.out hw1 l.length k (by omega) (by omega)
        rw [hln] at hbk
        have hterm : term wide l i (k - i) = if k < n then room * room else 0 := by
          unfold term
          rw [show i + (k - i) = k from by omega, hln, HRm.out]
        have HTm := Lib.hid hterm
        clear hterm
        have hmul : 0 ≤ room * room ∧ room * room ≤ 1000000 := ⟨sq_nonneg _, by
          rcases Int.le_total 0 room with h | h
          · have := sq_le h hroom1; omega
          · have h1 := Int.mul_le_mul (show -room ≤ 1000 by omega) (show -room ≤ 1000 by omega) (by omega) (by omega : (0:Int) ≤ 1000)
            rw [Int.neg_mul_neg] at h1; omega⟩
        by_cases hyes : 0 ≤ room ∧ C wide l k + term wide l i (k - i) = C wide l i
        · have hkt : k = i + t := by
            rcases Nat.lt_or_ge (i + t) k with h | h
            · exact absurd (by rw [HRm.out]; exact hyes) (P6.out k h (by omega))
            · omega
          obtain ⟨hy1, hy2⟩ := hyes
          rw [HTm.out] at hy2
          have Hkt := Lib.hid hkt
          have Htn : Hid (((t : Nat) : Int) = (k : Int) - i) := (by omega : ((t : Nat) : Int) = (k : Int) - i)
          clear hkt
          by_cases hlt2 : k < n
          · rw [if_pos hlt2] at hy2
            have e1 : ((C wide l k + room * room) == C wide l i) = true := by rw [beq_iff_eq]; exact hy2
            clear hy2
            go_wp2_with (at_builtin; refine wpList_append1 rfl (.tmp 51) (.tmp 55) _ rfl 3 i0 _ Tryd.underlying22 hi0 hz0 hz1 (by omega) rfl w0.heap.size _ _ (.int .i64 ((k : Int) - i)) rfl rfl rfl Hown.out (by simp; omega) hB.size ?_; intro v' w' hown' hB')
            go_roundg f
            case measure => omega
            case rel => exact ⟨k, acc ++ [((k : Int) - i)], by omega, by simp; omega, rfl, hB.trans hB', by simpa using hown', by omega, best_step hln hlt (by rw [P1.out]; exact Htn.out) (by omega) HT.out⟩
          · rw [if_neg hlt2, Int.add_zero] at hy2
            have e1 : (C wide l k == C wide l i) = true := by rw [beq_iff_eq]; exact hy2
            clear hy2
            go_wp2_with (at_builtin; refine wpList_append1 rfl (.tmp 51) (.tmp 55) _ rfl 3 i0 _ Tryd.underlying22 hi0 hz0 hz1 (by omega) rfl w0.heap.size _ _ (.int .i64 ((k : Int) - i)) rfl rfl rfl Hown.out (by simp; omega) hB.size ?_; intro v' w' hown' hB')
            go_roundg f
            case measure => omega
            case rel => exact ⟨k, acc ++ [((k : Int) - i)], by omega, by simp; omega, rfl, hB.trans hB', by simpa using hown', by omega, best_step hln hlt (by rw [P1.out]; exact Htn.out) (by omega) HT.out⟩
        · have hkt : i + t < k := by
            rcases Nat.lt_or_ge (i + t) k with h | h
            · exact h
            · exfalso
              obtain rfl : k = i + t := by omega
              apply hyes
              have h1 := P4.out
              have h2 := P5.out
              rw [show i + t - i = t from by omega] at HRm ⊢
              exact ⟨by rw [← HRm.out]; exact h1, h2⟩
          have HY := Lib.hid hyes
          have hrel' : ∀ k', k - 1 < k' → k' ≤ n → ¬ (0 ≤ rm wide l i (k' - i) ∧ C wide l k' + term wide l i (k' - i) = C wide l i) := fun k' h1 h2 => by
            by_cases e : k' = k
            · rw [e, HRm.out]; exact HY.out
            · exact HAll.out k' (by omega) h2
          have HRel := Lib.hid hrel'
          have hkk : (k : Int) - 1 = ((k - 1 : Nat) : Int) := by omega
          have HKK := Lib.hid hkk
          rw [HTm.out] at hyes
          clear hrel' hkk HAll
          by_cases hneg : 0 ≤ room
          · by_cases hlt2 : k < n
            · rw [if_pos hlt2] at hyes
              have e1 : ((C wide l k + room * room) == C wide l i) = false := by rw [beq_eq_false_iff_ne]; exact fun h => hyes ⟨hneg, h⟩
              clear hyes
              go_wp2_with fail
              go_roundg (k - 1)
              case measure => omega
              case rel => exact ⟨k - 1, rfl, by omega, by omega, by rw [← HKK.out], rfl, HRel.out⟩
            · rw [if_neg hlt2, Int.add_zero] at hyes
              have e1 : (C wide l k == C wide l i) = false := by rw [beq_eq_false_iff_ne]; exact fun h => hyes ⟨hneg, h⟩
              clear hyes
              go_wp2_with fail
              go_roundg (k - 1)
              case measure => omega
              case rel => exact ⟨k - 1, rfl, by omega, by omega, by rw [← HKK.out], rfl, HRel.out⟩
          · clear hyes
            have hneg' : decide (0 ≤ room) = false := by simpa using hneg
            by_cases hlt2 : k < n
            all_goals
              go_wp2_with fail
              go_roundg (k - 1)
              case measure => omega
              case rel => exact ⟨k - 1, rfl, by omega, by omega, by rw [← HKK.out], rfl, HRel.out⟩
    · have h := HT.out
      have h' : out (tables wide l).2 l.length gk i acc = acc := by
        cases gk with
        | zero => rfl
        | succ f => unfold out; rw [if_neg (by omega)]
      rw [h'] at h
      have HH := Lib.hid h
      clear h h'
      go_wp2_with fail
      go_ret
      exact ⟨_, rfl, Res.of_own (by rw [← HH.out]; exact own_base Hown.out hsz) (HB0.out.trans (hB.mono hsz))⟩
end Go.Proofs.YtikkcjclhalhgaaDoor
