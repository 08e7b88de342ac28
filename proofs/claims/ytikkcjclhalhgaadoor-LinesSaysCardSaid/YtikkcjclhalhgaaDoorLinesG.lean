/- The walks over lines.Greedy . -/
import Derived.Test.YtikkcjclhalhgaaDoorLinesB
import Derived.Test.YtikkcjclhalhgaaDoorLinesP
namespace Go.Proofs.YtikkcjclhalhgaaDoor
open Go.RowKit LinesM

theorem gk_yes {wide : Int} {ws : List Int} {i f k : Nat} (h1 : i + k < ws.length) (h2 : 0 ≤ left wide ((ws.drop i).take (k + 1))) : gk wide ws i (f + 1) k = gk wide ws i f (k + 1) := by
  conv => lhs; unfold gk
  rw [if_pos ⟨h1, h2⟩]
theorem gk_no {wide : Int} {ws : List Int} {i f k : Nat} (h : ¬ (i + k < ws.length ∧ 0 ≤ left wide ((ws.drop i).take (k + 1)))) : gk wide ws i f k = k := by
  cases f with
  | zero => rfl
  | succ f => unfold gk; rw [if_neg h]

theorem greedy_step {wide : Int} {l : List Int} {n i k f : Nat} {acc T : List Int} (hln : l.length = n) (hi : i < n) (hk : k = LinesM.gk wide l i n 1) (h : greedyGo wide l (f + 1) i acc = T) :
    greedyGo wide l f (i + k) (acc ++ [(k : Int)]) = T := by
  subst hln hk
  rw [← h]
  conv => rhs; unfold greedyGo
  rw [if_pos hi]

set_option maxRecDepth 100000 in
set_option maxHeartbeats 1000000 in
theorem greedy_any (wide : Int) (A : Option Addr) (n c : Nat) (l : List Int) (w : World) (hA : Ints w w.heap.size A n l) (hw0 : 0 ≤ wide) (hw1 : wide ≤ 30) (hn : n ≤ 20) (hnc : n ≤ c)
    (hl : ∀ x ∈ l, 1 ≤ x ∧ x ≤ wide)
    (hchk : Calls Tryd.prog 6 #[.int .i64 wide, .slice A n c] w fun e w' => e = .returned .nilIface ∧ w = w') :
    Calls Tryd.prog 12 #[.int .i64 wide, .slice A n c] w fun e w' => ∃ v, e = .returned (.tuple #[v, .nilIface]) ∧
      w'.ownsRow w.heap.size 3 1 v ((greedy wide l).map (Value.int .i64)).length ((greedy wide l).map (Value.int .i64)) ∧ Below w.heap.size w w' := by
  obtain ⟨i0, hi0, hz0, hz1, hz2⟩ := info_parts info_int
  have hln := hA.1
  have HL := Lib.hid hl; clear hl
  go_enter Tryd.func12, Tryd.ntmps12
  go_wp2_with fail
  refine hchk.mono ?_
  rintro e w' ⟨rfl, rfl⟩
  go_wp2_with fail
  go_loopg [7, 8] n (fun f v i wr => ∃ k : Nat, ∃ acc : List Int, k ≤ n ∧ acc.length ≤ k ∧ i = .int .i64 k ∧ Below w.heap.size w wr ∧ wr.ownsRow w.heap.size 3 1 v (acc.map (Value.int .i64)).length (acc.map (Value.int .i64)) ∧
           n ≤ k + f ∧ greedyGo wide l f k acc = greedy wide l)
  case atStart => exact ⟨0, [], Nat.zero_le _, Nat.le_refl _, rfl, Below.refl _ _, World.ownsRow_nil _ _ _ _, by omega, by subst hln; rfl⟩
  case round =>
    obtain ⟨i, acc, hi, hacc, rfl, hB, hown, hkf, hT⟩ := hrel
    have HT := Lib.hid hT; clear hT
    have Hown := Lib.hid hown; clear hown
    by_cases hlt : i < n
    · obtain ⟨f, rfl⟩ : ∃ f, gk = f + 1 := ⟨gk - 1, by omega⟩
      go_wp2_with fail
      obtain ⟨w0, rfl⟩ : ∃ w0 : World, w0 = wr := ⟨_, rfl⟩
      go_loopg [9] n (fun g kv wr2 => ∃ k : Nat, 1 ≤ k ∧ i + k ≤ n ∧ kv = .int .i64 k ∧ w0 = wr2 ∧ n ≤ i + k + g ∧ LinesM.gk wide l i g k = LinesM.gk wide l i n 1)
      case atStart => exact ⟨1, by omega, by omega, rfl, rfl, by omega, rfl⟩
      case round =>
        obtain ⟨k, hk1, hk2, rfl, rfl, hkg, hG⟩ := hrel
        have HG := Lib.hid hG; clear hG
        by_cases hik : i + k < n
        · obtain ⟨g, rfl⟩ : ∃ g, gk = g + 1 := ⟨gk - 1, by omega⟩
          have hcut : Ints w0 w.heap.size (Option.map (fun x => x.add i) A) (i + k + 1 - i) ((l.drop i).take (i + k + 1 - i)) :=
            (hA.below hB).cut (i := i) (j := i + k + 1) (by omega) (by omega) (A' := A.map (·.add i)) (fun _ => rfl)
          have hlk : ∀ x ∈ (l.drop i).take (i + k + 1 - i), 0 ≤ x ∧ x ≤ 30 := fun x hx => (fun h => ⟨by omega, by omega⟩ : 1 ≤ x ∧ x ≤ wide → 0 ≤ x ∧ x ≤ 30) (HL.out x (List.mem_of_mem_drop (List.mem_of_mem_take hx)))
          have hsub : i + k + 1 - i = k + 1 := by omega
          have HSub := Lib.hid hsub; clear hsub
          by_cases hroom : 0 ≤ left wide ((l.drop i).take (i + k + 1 - i))
          · have HR := Lib.hid hroom
            go_wp2_with fail
            refine (left_any wide _ _ _ _ w0 w.heap.size hcut hw0 hw1 (by omega) hlk).mono ?_
            rintro e w' ⟨rfl, rfl⟩
            go_wp2_with fail
            go_roundg g
            case measure => omega
            case rel => exact ⟨k + 1, by omega, by omega, by simp, rfl, by omega, by rw [← HG.out, gk_yes (by omega) (by rw [← HSub.out]; exact HR.out)]⟩
          · have HR := Lib.hid hroom
            go_wp2_with fail
            refine (left_any wide _ _ _ _ w0 w.heap.size hcut hw0 hw1 (by omega) hlk).mono ?_
            rintro e w' ⟨rfl, rfl⟩
            have hk : k = LinesM.gk wide l i n 1 := by
              rw [← HG.out, gk_no]; rintro ⟨_, h⟩; rw [← HSub.out] at h; exact absurd h (by have := HR.out; omega)
            have HK := Lib.hid hk; clear hk
            go_wp2_with (at_builtin; refine wpList_append1 rfl (.tmp 40) (.tmp 42) _ rfl 3 i0 _ Tryd.underlying22 hi0 hz0 hz1 (by omega) rfl w.heap.size _ _ (.int .i64 k) rfl rfl rfl Hown.out (by simp; omega) hB.size ?_; intro v' w' hown' hB')
            go_roundg f
            case measure => omega
            case rel => exact ⟨i + k, acc ++ [(k : Int)], by omega, by simp; omega, by simp, hB.trans hB', by simpa using hown', by omega, greedy_step hln hlt HK.out HT.out⟩
        · have hk : k = LinesM.gk wide l i n 1 := by
            rw [← HG.out, gk_no]; rintro ⟨h, _⟩; omega
          have HK := Lib.hid hk; clear hk
          go_wp2_with (at_builtin; refine wpList_append1 rfl (.tmp 40) (.tmp 42) _ rfl 3 i0 _ Tryd.underlying22 hi0 hz0 hz1 (by omega) rfl w.heap.size _ _ (.int .i64 k) rfl rfl rfl Hown.out (by simp; omega) hB.size ?_; intro v' w' hown' hB')
          go_roundg f
          case measure => omega
          case rel => exact ⟨i + k, acc ++ [(k : Int)], by omega, by simp; omega, by simp, hB.trans hB', by simpa using hown', by omega, greedy_step hln hlt HK.out HT.out⟩
    · have h := HT.out
      have h' : greedyGo wide l gk i acc = acc := by
        cases gk with
        | zero => rfl
        | succ f => unfold greedyGo; rw [if_neg (by omega)]
      rw [h'] at h
      have HH := Lib.hid h
      clear h h'
      go_wp2_with fail
      go_ret2
      exact ⟨_, rfl, by rw [← HH.out]; exact Hown.out, hB⟩

end Go.Proofs.YtikkcjclhalhgaaDoor
