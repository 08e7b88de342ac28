/- The walk over lines.Best. -/
import Derived.Test.YtikkcjclhalhgaaDoorLinesW
namespace Go.Proofs.YtikkcjclhalhgaaDoor
open Go.RowKit LinesM

theorem info_int : (Tryd.prog.info? 3).map (fun i => (i.zero, i.size, i.bytes)) = some (some (.int .i64 0), 1, 8) := by kernel_rfl



def BestRel (l : List Int) (w : World) (g1 g2 : Nat) (wr : World) (s : List Int × List Int) : Prop :=
  Below w.heap.size w wr ∧ Blk wr g1 3 (s.1.map (Value.int .i64)) ∧ Blk wr g2 3 (s.2.map (Value.int .i64)) ∧ g1 ≠ g2 ∧ w.heap.size ≤ g1 ∧ w.heap.size ≤ g2 ∧
  s.1.length = l.length + 1 ∧ s.2.length = l.length + 1 ∧ CB l.length s.1

theorem blk_ints {w : World} {g t : Nat} {l : List Int} (h : Blk w g t (l.map (Value.int .i64))) {j : Nat} (hj : j < l.length) : w.cell? ⟨g, j, none⟩ = some (.int .i64 (gi l j)) := by
  rw [h.cell, List.getElem?_map, List.getElem?_eq_getElem hj, gi_eq hj]; rfl
theorem bestRel_set {l : List Int} {w : World} {g1 g2 : Nat} {wr : World} {s : List Int × List Int} (h : BestRel l w g1 g2 wr s) {i : Nat} {c k : Int} (h0 : 0 ≤ c) (h1 : c ≤ 900 * ((l.length : Int) - i)) :
    BestRel l w g1 g2 ((wr.setCell ⟨g1, i, none⟩ (.int .i64 c)).setCell ⟨g2, i, none⟩ (.int .i64 k)) (s.1.set i c, s.2.set i k) := by
  obtain ⟨a1, a2, a3, a4, a5, a6, a7, a8, a9⟩ := h
  refine ⟨(a1.setCell (p := ⟨g1, i, none⟩) a5 _).setCell (p := ⟨g2, i, none⟩) a6 _, ?_, ?_, a4, a5, a6, by simpa using a7, by simpa using a8, a9.set h0 h1⟩
  · have := (a2.set_ i (.int .i64 c)).far (p := ⟨g2, i, none⟩) a4 (.int .i64 k)
    rwa [← List.map_set] at this
  · have := (a3.far (p := ⟨g1, i, none⟩) (fun e => a4 e.symm) (.int .i64 c)).set_ i (.int .i64 k)
    rwa [← List.map_set] at this

theorem bestRel_new (l : List Int) (w : World) (n : Nat) (hn : l.length = n) (g1 g2 : Nat) (hg : g1 = w.heap.size ∧ g2 = w.heap.size + 1 ∨ g1 = w.heap.size + 1 ∧ g2 = w.heap.size) :
    BestRel l w g1 g2 ((w.alloc (Obj.cells (Array.replicate (n + 1) (Value.int .i64 0)) 3)).alloc (Obj.cells (Array.replicate (n + 1) (Value.int .i64 0)) 3)).drew
      (List.replicate (n+1) 0, List.replicate (n+1) 0) := by
  have e : (Array.replicate (n + 1) (Value.int .i64 0)) = ((List.replicate (n+1) (0:Int)).map (Value.int .i64)).toArray := by simp
  have hb : Below w.heap.size w ((w.alloc (Obj.cells (Array.replicate (n + 1) (Value.int .i64 0)) 3)).alloc (Obj.cells (Array.replicate (n + 1) (Value.int .i64 0)) 3)).drew :=
    (((Below.refl _ _).alloc (Nat.le_refl _) _).alloc (by simp) _).drew
  have h1 : Blk ((w.alloc (Obj.cells (Array.replicate (n + 1) (Value.int .i64 0)) 3)).alloc (Obj.cells (Array.replicate (n + 1) (Value.int .i64 0)) 3)).drew w.heap.size 3 ((List.replicate (n+1) (0:Int)).map (Value.int .i64)) := by
    rw [e]; exact ((Blk.new w _ _).alloc _).drew
  have h2 : Blk ((w.alloc (Obj.cells (Array.replicate (n + 1) (Value.int .i64 0)) 3)).alloc (Obj.cells (Array.replicate (n + 1) (Value.int .i64 0)) 3)).drew (w.heap.size + 1) 3 ((List.replicate (n+1) (0:Int)).map (Value.int .i64)) := by
    rw [e]; have := (Blk.new (w.alloc (Obj.cells ((List.replicate (n+1) (0:Int)).map (Value.int .i64)).toArray 3)) 3 ((List.replicate (n+1) (0:Int)).map (Value.int .i64))).drew
    simpa using this
  rcases hg with ⟨rfl, rfl⟩ | ⟨rfl, rfl⟩
  · exact ⟨hb, h1, h2, by omega, by omega, by omega, by simp [hn], by simp [hn], CB.new _ _⟩
  · exact ⟨hb, h2, h1, by omega, by omega, by omega, by simp [hn], by simp [hn], CB.new _ _⟩

def InnerRel (wide : Int) (l : List Int) (w : World) (g1 g2 n i : Nat) (T : List Int × List Int) (f : Nat) (k : Value) (wr : World) : Prop :=
  ∃ s', ∃ kn : Nat, 1 ≤ kn ∧ kn ≤ n + 1 ∧ kn + f = l.length + 1 - (i + 1) + 1 + 1 ∧ k = .int .i64 kn ∧ BestRel l w g1 g2 wr s' ∧ inner wide l i f kn s' = T

theorem inner_yes_rel {wide : Int} {l : List Int} {w : World} {g1 g2 n i : Nat} {T s' : List Int × List Int} {f k : Nat} {wr : World} (hR : BestRel l w g1 g2 wr s') (hln : l.length = n) (hk1 : 1 ≤ k) (hk : i + k ≤ n)
    (HF : k + (f + 1) = l.length + 1 - (i + 1) + 1 + 1) {room : Int} (hr : left wide ((l.drop i).take k) = room) (hr0 : 0 ≤ room) (hmul : 0 ≤ room * room ∧ room * room ≤ 900) {c : Int}
    (hc : gi s'.1 (i + k) + (if i + k < l.length then room * room else 0) = c) (h3 : gi s'.2 i = 0 ∨ c ≤ gi s'.1 i) (ht : inner wide l i (f + 1) k s' = T) :
    InnerRel wide l w g1 g2 n i T f (.int .i64 ((k : Int) + 1)) ((wr.setCell ⟨g1, i, none⟩ (.int .i64 c)).setCell ⟨g2, i, none⟩ (.int .i64 k)) := by
  have hb := hR.2.2.2.2.2.2.2.2 (i + k) (by omega)
  refine ⟨(s'.1.set i c, s'.2.set i k), k + 1, by omega, by omega, by omega, by simp, bestRel_set hR ?_ ?_, ?_⟩
  · subst hc; split <;> omega
  · subst hc; split <;> omega
  · rw [← inner_yes (by omega) hr hr0 hc h3, ht]
theorem inner_no_rel {wide : Int} {l : List Int} {w : World} {g1 g2 n i : Nat} {T s' : List Int × List Int} {f k : Nat} {wr : World} (hR : BestRel l w g1 g2 wr s') (hln : l.length = n) (hk : i + k ≤ n)
    (HF : k + (f + 1) = l.length + 1 - (i + 1) + 1 + 1) {room : Int} (hr : left wide ((l.drop i).take k) = room) (hr0 : 0 ≤ room) {c : Int}
    (hc : gi s'.1 (i + k) + (if i + k < l.length then room * room else 0) = c) (h3 : ¬ (gi s'.2 i = 0 ∨ c ≤ gi s'.1 i)) (ht : inner wide l i (f + 1) k s' = T) :
    InnerRel wide l w g1 g2 n i T f (.int .i64 ((k : Int) + 1)) wr :=
  ⟨s', k + 1, by omega, by omega, by omega, by simp, hR, by rw [← inner_no (by omega) hr hr0 hc h3, ht]⟩

set_option maxRecDepth 100000 in
set_option maxHeartbeats 1000000 in
theorem best_any (wide : Int) (A : Option Addr) (n c : Nat) (l : List Int) (w : World) (hA : Ints w w.heap.size A n l) (hw0 : 0 ≤ wide) (hw1 : wide ≤ 30) (hn : n ≤ 20) (hnc : n ≤ c)
    (hl : ∀ x ∈ l, 1 ≤ x ∧ x ≤ wide)
    (hchk : Calls Tryd.prog 6 #[.int .i64 wide, .slice A n c] w fun e w' => e = .returned .nilIface ∧ w = w') :
    Calls Tryd.prog 10 #[.int .i64 wide, .slice A n c] w fun e w' => ∃ v, e = .returned (.tuple #[v, .int .i64 (bestCost wide l), .nilIface]) ∧
      w'.ownsRow w.heap.size 3 1 v (best wide l).length ((best wide l).map (Value.int .i64)) ∧ Below w.heap.size w w' := by
  obtain ⟨i0, hi0, hz0, hz1, hz2⟩ := info_parts info_int
  have hmk := fun W => mk_ints (P := Tryd.prog) Tryd.underlying22 hi0 hz0 hz1 rfl (by omega) (n + 1) (by omega) W
  simp only [Int.natCast_add, Int.natCast_one] at hmk
  go_enter Tryd.func10, Tryd.ntmps10
  go_wp2_with fail
  refine hchk.mono ?_
  rintro e w' ⟨rfl, rfl⟩
  go_upto_region 5 with fail
  go_cut [9, 10] (fun s9 s10 wx => ∃ g1 g2 : Nat, s9 = .slice (some ⟨g1, 0, none⟩) (n+1) (n+1) ∧ s10 = .slice (some ⟨g2, 0, none⟩) (n+1) (n+1) ∧ BestRel l w g1 g2 wx (List.replicate (n+1) 0, List.replicate (n+1) 0))
  case first =>
    go_region
    all_goals
      go_wp2_with fail
      go_meet
      first
        | exact ⟨_, _, rfl, rfl, bestRel_new l w n hA.1 _ _ (.inl ⟨rfl, rfl⟩)⟩
        | exact ⟨_, _, rfl, rfl, bestRel_new l w n hA.1 _ _ (.inr ⟨rfl, rfl⟩)⟩
  case rest =>
    obtain ⟨g1, g2, rfl, rfl, hR⟩ := hcut
    clear hmk
    go_wp2_with fail
    go_loopg [11] n (fun g i wr => ∃ s, g ≤ n ∧ i = .int .i64 ((g : Int) - 1) ∧ BestRel l w g1 g2 wr s ∧ outer wide l g s = tables wide l)
    case atStart => exact ⟨_, Nat.le_refl _, rfl, hR, by have := hA.1; simp only [tables, this]⟩
    case round =>
      obtain ⟨s, hg, hi, hR, ht⟩ := hrel
      have HT := Lib.hid ht; clear ht
      by_cases h0 : gk = 0
      · subst h0
        obtain rfl : s = tables wide l := HT.out
        subst hi
        clear hg HT
        have hln := hA.1
        have hb1 := blk_ints hR.2.1 (j := 0) (by have := hR.2.2.2.2.2.2.1; omega)
        go_wp2_with fail
        obtain ⟨w0, rfl⟩ : ∃ w0 : World, w0 = wr := ⟨_, rfl⟩
        go_loopg [15, 16] n (fun f v i wr => ∃ k : Nat, ∃ acc : List Int, k ≤ n ∧ acc.length ≤ k ∧ i = .int .i64 k ∧ Below w0.heap.size w0 wr ∧ wr.ownsRow w0.heap.size 3 1 v (acc.map (Value.int .i64)).length (acc.map (Value.int .i64)) ∧
           n ≤ k + f ∧ out (tables wide l).2 l.length f k acc = best wide l)
        case atStart => exact ⟨0, [], Nat.zero_le _, Nat.le_refl _, rfl, Below.refl _ _, World.ownsRow_nil _ _ _ _, by omega, by subst hln; rfl⟩
        case round =>
          obtain ⟨k, acc, hk, hacc, rfl, hB, hown, hkf, hT⟩ := hrel
          have HT := Lib.hid hT; clear hT
          have Hown := Lib.hid hown; clear hown
          by_cases hlt : k < n
          · obtain ⟨f, rfl⟩ : ∃ f, gk = f + 1 := ⟨gk - 1, by omega⟩
            have hb2 := blk_ints (hR.2.2.1.below hB hR.2.2.1.lt) (j := k) (by have := hR.2.2.2.2.2.2.2.1; omega)
            have htk := tables_take wide l hl k (by omega)
            generalize htt : gi ((tables wide l).2) k = tt at *
            have Htt := Lib.hid htt; clear htt
            have hg2 : g2 < w0.heap.size := hR.2.2.1.lt
            go_wp2_with (at_builtin; refine wpList_append1 rfl (.tmp 100) (.tmp 105) _ rfl 3 i0 _ Tryd.underlying22 hi0 hz0 hz1 (by omega) rfl w0.heap.size _ _ (.int .i64 tt) rfl rfl rfl Hown.out (by simp; omega) hB.size ?_; intro v' w' hown' hB'; have hb3 := ((bcell hB').1 g2 k hg2).trans hb2; clear hb2)
            go_roundg f
            case measure => omega
            case rel =>
              refine ⟨k + tt.toNat, acc ++ [tt], by omega, by simp; omega, ?_, hB.trans hB', by simpa using hown', by omega, ?_⟩
              · congr 1; omega
              · have h := HT.out
                unfold out at h
                rw [if_pos (by omega), Htt.out] at h
                exact h
          · have hb3 := ((bcell hB).1 g1 0 hR.2.1.lt).trans hb1
            go_wp2_with fail
            go_region
            go_wp2_with fail
            go_ret3
            have h := HT.out
            have h' : out (tables wide l).2 l.length gk k acc = acc := by
              cases gk with
              | zero => rfl
              | succ f => unfold out; rw [if_neg (by omega)]
            rw [h'] at h
            refine ⟨_, rfl, ?_, ?_⟩
            · have := own_base Hown.out (hR.1.size)
              rw [h] at this
              exact World.ownsRow.drew (by simpa using this)
            · exact ((hR.1).trans (hB.mono hR.1.size)).drew
      · obtain ⟨i, rfl⟩ : ∃ i, gk = i + 1 := ⟨gk - 1, by omega⟩
        rw [show (((i + 1 : Nat) : Int) - 1) = (i : Int) from by omega] at hi
        subst hi
        go_wp2_with fail
        go_loopg [12] (l.length + 1 - (i + 1) + 1) (InnerRel wide l w g1 g2 n i (inner wide l i (l.length + 1 - (i + 1) + 1) 1 s))
        case atStart => exact ⟨_, 1, by omega, by omega, by omega, rfl, hR, rfl⟩
        case round =>
          obtain ⟨s', k, hk1, hk2, hkf, rfl, hR', ht'⟩ := hrel
          have HT' := Lib.hid ht'; clear ht'
          have HF := Lib.hid hkf; clear hkf
          have hln := hA.1
          by_cases hk : i + k ≤ n
          · have hA' := hR'.1
            obtain ⟨f, rfl⟩ : ∃ f, gk = f + 1 := ⟨gk - 1, by have := HF.out; omega⟩
            have hcut : Ints wr w.heap.size (Option.map (fun x => x.add i) A) k ((l.drop i).take k) := by
              have := (hA.below hR'.1).cut (i := i) (j := i + k) (by omega) hk (A' := A.map (·.add i)) (fun _ => rfl)
              rwa [Nat.add_sub_cancel_left] at this
            have hlk : ∀ x ∈ (l.drop i).take k, 0 ≤ x ∧ x ≤ 30 := fun x hx => (fun h => ⟨by omega, by omega⟩ : 1 ≤ x ∧ x ≤ wide → 0 ≤ x ∧ x ≤ 30) (hl x (List.mem_of_mem_drop (List.mem_of_mem_take hx)))
            go_wp2_with fail
            refine (left_any wide _ k _ _ wr w.heap.size hcut hw0 hw1 (by omega) hlk).mono ?_
            rintro e w' ⟨rfl, rfl⟩
            have hroom1 : left wide ((l.drop i).take k) ≤ 30 := left_le wide ((l.drop i).take k) hlk (by simp; omega) hw1
            clear hcut hlk
            generalize hroom : left wide ((l.drop i).take k) = room at *
            have HRoom := Lib.hid hroom; clear hroom
            by_cases hr : room < 0
            · go_wp2_with fail
              go_roundg i
              case measure => omega
              case rel =>
                have h1 := HT'.out
                have h2 := HT.out
                rw [inner_stop (.inr (by rw [HRoom.out]; omega))] at h1
                refine ⟨s', by omega, rfl, hR', ?_⟩
                rw [h1, ← h2]; rfl
            · have hc1 := blk_ints hR'.2.1 (j := i + k) (by have := hR'.2.2.2.2.2.2.1; omega)
              have hc2 := blk_ints hR'.2.1 (j := i) (by have := hR'.2.2.2.2.2.2.1; omega)
              have hc3 := blk_ints hR'.2.2.1 (j := i) (by have := hR'.2.2.2.2.2.2.2.1; omega)
              have hf1 := hR'.2.1.frozen i
              have hf2 := hR'.2.2.1.frozen i
              have hne : g1 ≠ g2 := hR'.2.2.2.1
              have hne' : g2 ≠ g1 := fun e => hne e.symm
              have hb1 := hR'.2.2.2.2.2.2.2.2 (i + k) (by omega)
              rw [hln] at hb1
              have hmul : 0 ≤ room * room ∧ room * room ≤ 900 := ⟨Int.mul_nonneg (by omega) (by omega), by
                have := Int.mul_le_mul (show room ≤ 30 by omega) (show room ≤ 30 by omega) (by omega) (by omega : (0:Int) ≤ 30); omega⟩
              by_cases hlt : i + k < n
              · by_cases ht0 : gi s'.2 i = 0
                · go_wp2_with fail
                  go_roundg f
                  case measure => omega
                  case rel => exact inner_yes_rel hR' hln hk1 hk HF.out HRoom.out hr hmul (by rw [if_pos (by omega)]) (.inl ht0) HT'.out
                · by_cases hcc : gi s'.1 (i+k) + room * room ≤ gi s'.1 i
                  · go_wp2_with fail
                    go_roundg f
                    case measure => omega
                    case rel => exact inner_yes_rel hR' hln hk1 hk HF.out HRoom.out hr hmul (by rw [if_pos (by omega)]) (.inr hcc) HT'.out
                  · have ht0' : (gi s'.2 i == 0) = false := by simpa using ht0
                    go_wp2_with fail
                    go_roundg f
                    case measure => omega
                    case rel => exact inner_no_rel hR' hln hk HF.out HRoom.out hr (by rw [if_pos (by omega)]) (by omega) HT'.out
              · by_cases ht0 : gi s'.2 i = 0
                · go_wp2_with fail
                  go_roundg f
                  case measure => omega
                  case rel => exact inner_yes_rel hR' hln hk1 hk HF.out HRoom.out hr hmul (by rw [if_neg (by omega), Int.add_zero]) (.inl ht0) HT'.out
                · by_cases hcc : gi s'.1 (i+k) ≤ gi s'.1 i
                  · go_wp2_with fail
                    go_roundg f
                    case measure => omega
                    case rel => exact inner_yes_rel hR' hln hk1 hk HF.out HRoom.out hr hmul (by rw [if_neg (by omega), Int.add_zero]) (.inr hcc) HT'.out
                  · have ht0' : (gi s'.2 i == 0) = false := by simpa using ht0
                    go_wp2_with fail
                    go_roundg f
                    case measure => omega
                    case rel => exact inner_no_rel hR' hln hk HF.out HRoom.out hr (by rw [if_neg (by omega), Int.add_zero]) (by omega) HT'.out
          · go_wp2_with fail
            go_roundg i
            case measure => omega
            case rel =>
              have h1 := HT'.out
              have h2 := HT.out
              rw [inner_stop (.inl (by omega))] at h1
              refine ⟨s', by omega, rfl, hR', ?_⟩
              rw [h1, ← h2]; rfl
end Go.Proofs.YtikkcjclhalhgaaDoor
