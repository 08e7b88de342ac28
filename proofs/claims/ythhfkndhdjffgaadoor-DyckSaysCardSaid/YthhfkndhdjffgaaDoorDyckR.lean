/- The walks over the document's answers for brackets, and over the law DyckSays. Condition of the last: errors.errorType reads as the handle of the type error. -/
import Derived.Test.YthhfkndhdjffgaaDoorDyckW
import Derived.Test.YthhfkndhdjffgaaDoorDyckP
import Derived.Test.YthhfkndhdjffgaaDoorStrs
namespace Go.Proofs.YthhfkndhdjffgaaDoor
open Go.RowKit DyckM
attribute [local go_sem] byte_at str_app

set_option maxHeartbeats 400000 in
theorem brackets_any (l : List UInt8) (w : World) (hl : l.length ≤ 9223372036854775807) :
    Calls Tryd.prog 4 #[S l] w fun e w' => e = .returned (.int .i64 (chk l)) ∧ w = w' := by
  by_cases h16 : 16 < l.length
  · have HC := Lib.hid (show chk l = 4 by unfold chk; rw [if_pos h16])
    go_enter Tryd.func4, Tryd.ntmps4
    go_wp2_with fail
    go_ret
    exact ⟨by rw [HC.out]; rfl, rfl⟩
  · have HC := Lib.hid (show chk l = chkGo l 0 by unfold chk; rw [if_neg h16])
    go_enter Tryd.func4, Tryd.ntmps4
    go_wp2_with fail
    go_loopg [3, 4] l.length (fun f o i wr => ∃ k : Nat, ∃ op : Int, k + f = l.length ∧ i = .int .i64 k ∧ o = .int .i64 op ∧ 0 ≤ op ∧ op ≤ k ∧ w = wr ∧ chkGo (l.drop k) op = chk l)
    case atStart => exact ⟨0, 0, by omega, rfl, rfl, by omega, by omega, rfl, HC.out.symm⟩
    case round =>
      obtain ⟨k, op, hkf, rfl, rfl, h0, h1, rfl, hT⟩ := hrel
      by_cases hlt : k < l.length
      · rw [drop_bu hlt] at hT
        unfold chkGo at hT
        obtain ⟨f, rfl⟩ : ∃ f, gk = f + 1 := ⟨gk - 1, by omega⟩
        by_cases h40 : (bu l k).toNat = 40
        · rw [if_pos h40] at hT
          have HT := Lib.hid hT; clear hT
          have e1 : (((bu l k).toNat : Int) == 40) = true := by rw [beq_iff_eq]; omega
          clear h40
          go_wp2_with fail
          go_roundg f
          case measure => omega
          case rel => exact ⟨k + 1, op + 1, by omega, by simp, rfl, by omega, by omega, rfl, HT.out⟩
        · rw [if_neg h40] at hT
          have e1 : (((bu l k).toNat : Int) == 40) = false := by rw [beq_eq_false_iff_ne]; omega
          by_cases h41 : (bu l k).toNat = 41
          · rw [if_pos h41] at hT
            have e2 : (((bu l k).toNat : Int) == 41) = true := by rw [beq_iff_eq]; omega
            by_cases hop : op - 1 < 0
            · rw [if_pos hop] at hT
              have HT := Lib.hid hT; clear hT h41 h40
              go_wp2_with fail
              go_ret
              exact ⟨by rw [← HT.out]; rfl, rfl⟩
            · rw [if_neg hop] at hT
              have HT := Lib.hid hT; clear hT h41 h40
              go_wp2_with fail
              go_roundg f
              case measure => omega
              case rel => exact ⟨k + 1, op - 1, by omega, by simp, rfl, by omega, by omega, rfl, HT.out⟩
          · rw [if_neg h41] at hT
            have e2 : (((bu l k).toNat : Int) == 41) = false := by rw [beq_eq_false_iff_ne]; omega
            have HT := Lib.hid hT; clear hT h41 h40
            go_wp2_with fail
            go_ret
            exact ⟨by rw [← HT.out]; rfl, rfl⟩
      · rw [List.drop_of_length_le (by omega)] at hT
        unfold chkGo at hT
        by_cases hz : op = 0
        · rw [if_pos hz] at hT
          subst hz
          have HT := Lib.hid hT; clear hT
          go_wp2_with fail
          go_ret
          exact ⟨by rw [← HT.out]; rfl, rfl⟩
        · rw [if_neg hz] at hT
          have HT := Lib.hid hT; clear hT
          have hp : 0 < op := by omega
          clear hz
          go_wp2_with fail
          go_ret
          exact ⟨by rw [← HT.out]; rfl, rfl⟩

/-- Every text of brackets from so many open on, in order. -/
def every : Nat → Int → List (List UInt8)
  | 0, _ => [[]]
  | m + 1, o => (if o < (m : Int) + 1 then (every m (o + 1)).map (40 :: ·) else []) ++ (if 0 < o then (every m (o - 1)).map (41 :: ·) else [])
theorem every_len : ∀ (m : Nat) (o : Int), 0 ≤ o → o ≤ m → (∃ k : Int, (m : Int) + o = 2 * k) → ((every m o).length : Int) = W m o := by
  intro m
  induction m with
  | zero =>
    intro o h0 h1 _
    obtain rfl : o = 0 := by omega
    rfl
  | succ m ih =>
    intro o h0 h1 hk
    obtain ⟨k, hk⟩ := hk
    unfold every
    rw [W_in h0 (by omega), List.length_append]
    have e1 : ((if o < (m : Int) + 1 then (every m (o + 1)).map (40 :: ·) else []).length : Int) = W m (o + 1) := by
      split
      · rw [List.length_map]; exact ih (o + 1) (by omega) (by omega) ⟨k, by omega⟩
      · rw [W_out (.inr (by omega))]; rfl
    have e2 : ((if 0 < o then (every m (o - 1)).map (41 :: ·) else []).length : Int) = W m (o - 1) := by
      split
      · rw [List.length_map]; exact ih (o - 1) (by omega) (by omega) ⟨k - 1, by omega⟩
      · rw [W_out (.inl (by omega))]; rfl
    omega
theorem every_at : ∀ (m : Nat) (o p : Int), 0 ≤ o → o ≤ m → (∃ k : Int, (m : Int) + o = 2 * k) → 0 ≤ p → p < W m o → li (every m o) p.toNat = atL m o p := by
  intro m
  induction m with
  | zero =>
    intro o p h0 h1 _ hp hpw
    obtain rfl : o = 0 := by omega
    have : W 0 0 = 1 := rfl
    obtain rfl : p = 0 := by omega
    rfl
  | succ m ih =>
    intro o p h0 h1 hk hp hpw
    obtain ⟨k, hk⟩ := hk
    rw [W_in h0 (by omega)] at hpw
    have n1 := (W_nonneg m (o + 1)).1
    unfold every atL
    by_cases hlt : p < W m (o + 1)
    · rw [if_pos hlt]
      have hom : o < (m : Int) + 1 := by
        rcases Int.lt_or_le o ((m : Int) + 1) with h | h
        · exact h
        · rw [W_out (.inr (by omega))] at hlt; omega
      rw [if_pos hom]
      have hl := every_len m (o + 1) (by omega) (by omega) ⟨k, by omega⟩
      have := ih (o + 1) p (by omega) (by omega) ⟨k, by omega⟩ hp hlt
      rw [← this]
      unfold li
      rw [List.getElem?_append_left (by rw [List.length_map]; omega), List.getElem?_map, List.getElem?_eq_getElem (by omega)]
      rfl
    · rw [if_neg hlt]
      have hop : 0 < o := by
        rcases Int.lt_or_le 0 o with h | h
        · exact h
        · rw [W_out (m := m) (o := o - 1) (.inl (by omega))] at hpw; omega
      have hl2 := every_len m (o - 1) (by omega) (by omega) ⟨k - 1, by omega⟩
      have := ih (o - 1) (p - W m (o + 1)) (by omega) (by omega) ⟨k - 1, by omega⟩ (by omega) (by omega)
      rw [← this]
      have hl1 : ((if o < (m : Int) + 1 then (every m (o + 1)).map (40 :: ·) else []).length : Int) = W m (o + 1) := by
        split
        · rw [List.length_map]; exact every_len m (o + 1) (by omega) (by omega) ⟨k, by omega⟩
        · rw [W_out (.inr (by omega))]; rfl
      generalize (if o < (m : Int) + 1 then (every m (o + 1)).map (40 :: ·) else []) = X at *
      rw [if_pos hop]
      unfold li
      rw [List.getElem?_append_right (by omega), List.getElem?_map, show p.toNat - X.length = (p - W m (o + 1)).toNat from by omega, List.getElem?_eq_getElem (by omega)]
      rfl
theorem every_small (m : Nat) (o : Int) (h0 : 0 ≤ o) (h1 : o ≤ m) (hk : ∃ k : Int, (m : Int) + o = 2 * k) (hm : m ≤ 16) : (every m o).length ≤ 65536 := by
  have := every_len m o h0 h1 hk
  have := W_small (m := m) (o := o) hm
  omega

theorem info_str : (Tryd.prog.info? 9).map (fun i => (i.zero, i.size, i.bytes)) = some (some (.string ⟨#[]⟩), 1, 16) := by kernel_rfl

def ResS (w w' : World) (v : Value) (ls : List (List UInt8)) : Prop := ∃ A c, v = .slice A ls.length c ∧ (A = none → c = 0) ∧ Strs w' w'.heap.size A ls.length ls ∧ Below w.heap.size w w'
theorem ResS.of_own {w w' : World} {base e n : Nat} {v : Value} {l : List (List UInt8)} (h : w'.ownsRow base e 1 v n (l.map sv)) (hb : Below w.heap.size w w') : ResS w w' v l := by
  have hn : l.length = n := by simpa using h.1
  subst hn
  rcases h.2 with ⟨rfl, h0⟩ | ⟨g, cap, cur, rfl, _⟩
  · refine ⟨none, 0, by rw [h0], fun _ => rfl, ?_, hb⟩
    exact ⟨rfl, fun h => absurd h (by omega)⟩
  · exact ⟨_, cap, rfl, (fun h0 => by cases h0), Strs.of_own h, hb⟩

set_option maxRecDepth 100000 in
set_option maxHeartbeats 1000000 in
theorem every_any : ∀ (m : Nat) (s : List UInt8) (o : Int) (w : World), 0 ≤ o → o ≤ m → (∃ k : Int, (m : Int) + o = 2 * k) → m ≤ 16 → s.length + m ≤ 16 →
    Calls Tryd.prog 7 #[S s, .int .i64 o, .int .i64 (m : Int)] w fun e w' => ∃ v, e = .returned v ∧ ResS w w' v ((every m o).map (s ++ ·)) := by
  intro m
  induction m with
  | zero =>
    intro s o w h0 h1 hk hm hs
    go_enter Tryd.func7, Tryd.ntmps7
    go_wp2_with fail
    go_ret
    refine ⟨_, rfl, ResS.of_own (n := 1) (base := w.heap.size) (e := 9) ?_ ((Below.refl _ _).alloc (Nat.le_refl _) _)⟩
    simpa [every] using own_one (base := w.heap.size) (Nat.le_refl _) s
  | succ m ih =>
    intro s o w h0 h1 hk hm hs
    obtain ⟨i0, hi0, hz0, hz1, hz2⟩ := info_parts info_str
    have IH := Lib.hid ih; clear ih
    have HK := Lib.hid hk; clear hk
    go_enter Tryd.func7, Tryd.ntmps7
    by_cases ha : o < (m : Int) + 1
    · have hk1 : ∃ k : Int, (m : Int) + (o + 1) = 2 * k := by obtain ⟨k, hk⟩ := HK.out; exact ⟨k, by omega⟩
      have HS1 := Lib.hid (every_small m (o + 1) (by omega) (by obtain ⟨k, hk⟩ := HK.out; omega) hk1 (by omega))
      have HK1 := Lib.hid hk1; clear hk1
      have hom : o + 1 ≤ (m : Int) := by obtain ⟨k, hk⟩ := HK.out; omega
      go_wp2_with fail
      refine (IH.out (s ++ [40]) (o + 1) w (by omega) (by omega) HK1.out (by omega) (by simp; omega)).mono ?_
      rintro e w1 ⟨v, rfl, A1, c1, rfl, hc1, hi1, hb1⟩
      have hs1 := HS1.out
      rw [List.length_map] at hi1 ⊢
      generalize hX : (every m (o + 1)).length = n1 at *
      have HX := Lib.hid hX; clear hX
      by_cases hb : 0 < o
      · have hk2 : ∃ k : Int, (m : Int) + (o - 1) = 2 * k := by obtain ⟨k, hk⟩ := HK.out; exact ⟨k - 1, by omega⟩
        have HS2 := Lib.hid (every_small m (o - 1) (by omega) (by omega) hk2 (by omega))
        have HK2 := Lib.hid hk2; clear hk2
        go_wp2_with (at_builtin; refine wpList_appendS rfl (.tmp 15) (.tmp 22) _ rfl 9 i0 _ Tryd.underlying27 hi0 hz0 hz1 (by omega) rfl w.heap.size (.slice none 0 0) 0 [] A1 n1 c1 _ rfl rfl hc1 (World.ownsRow_nil _ _ _ _) hi1 (by omega) hb1.size ?_; intro v1 w2 hown2 hb2)
        refine (IH.out (s ++ [41]) (o - 1) w2 (by omega) (by omega) HK2.out (by omega) (by simp; omega)).mono ?_
        rintro e w3 ⟨v3, rfl, A3, c3, rfl, hc3, hi3, hb3⟩
        have hs2 := HS2.out
        rw [List.length_map] at hi3 ⊢
        generalize hY : (every m (o - 1)).length = n2 at *
        have HY := Lib.hid hY; clear hY
        have HB := Lib.hid (hb1.trans (hb2.trans (hb3.mono (Nat.le_trans hb1.size hb2.size))))
        have hown3 := own_below hown2 hb3 (Nat.le_refl _)
        have hsz : w.heap.size ≤ w3.heap.size := Nat.le_trans hb1.size (Nat.le_trans hb2.size hb3.size)
        clear hown2 hb1 hb2 hb3 hi1 HS1 HS2
        go_wp2_with (at_builtin; refine wpList_appendS rfl (.tmp 26) (.tmp 33) _ rfl 9 i0 _ Tryd.underlying27 hi0 hz0 hz1 (by omega) rfl w.heap.size v1 (0 + n1) _ A3 n2 c3 _ rfl rfl hc3 hown3 hi3 (by omega) hsz ?_; intro v4 w4 hown4 hb4)
        go_ret
        refine ⟨_, rfl, ResS.of_own (n := 0 + n1 + n2) (base := w.heap.size) (e := 9) ?_ (HB.out.trans hb4)⟩
        have he : (every (m + 1) o).map (s ++ ·) = ([] ++ (every m (o + 1)).map (s ++ [40] ++ ·)) ++ (every m (o - 1)).map (s ++ [41] ++ ·) := by
          conv => lhs; unfold every
          rw [if_pos ha, if_pos hb]
          simp [Function.comp_def]
        rw [he]; exact hown4
      · go_wp2_with (at_builtin; refine wpList_appendS rfl (.tmp 15) (.tmp 22) _ rfl 9 i0 _ Tryd.underlying27 hi0 hz0 hz1 (by omega) rfl w.heap.size (.slice none 0 0) 0 [] A1 n1 c1 _ rfl rfl hc1 (World.ownsRow_nil _ _ _ _) hi1 (by omega) hb1.size ?_; intro v1 w2 hown2 hb2)
        go_ret
        refine ⟨_, rfl, ResS.of_own (n := 0 + n1) (base := w.heap.size) (e := 9) ?_ (hb1.trans hb2)⟩
        have he : (every (m + 1) o).map (s ++ ·) = [] ++ (every m (o + 1)).map (s ++ [40] ++ ·) := by
          conv => lhs; unfold every
          rw [if_pos ha, if_neg (by omega)]
          simp [Function.comp_def]
        rw [he]; exact hown2
    · obtain rfl : o = (m : Int) + 1 := by omega
      have hk2 : ∃ k : Int, (m : Int) + ((m : Int) + 1 - 1) = 2 * k := ⟨m, by omega⟩
      have HS2 := Lib.hid (every_small m ((m : Int) + 1 - 1) (by omega) (by omega) hk2 (by omega))
      have HK2 := Lib.hid hk2; clear hk2
      have CALL : Calls Tryd.prog 7 #[S (s ++ [41]), .int .i64 (m : Int), .int .i64 (m : Int)] w fun e w' => ∃ v, e = .returned v ∧ ResS w w' v ((every m (m : Int)).map (s ++ [41] ++ ·)) := by
        have := IH.out (s ++ [41]) (m : Int) w (by omega) (by omega) ⟨m, by omega⟩ (by omega) (by simp; omega)
        exact this
      clear IH
      have hem : (m : Int) + 1 - 1 = m := by omega
      rw [hem] at HS2 HK2
      go_wp2_with fail
      refine CALL.mono ?_
      rintro e w3 ⟨v3, rfl, A3, c3, rfl, hc3, hi3, hb3⟩
      have hs2 := HS2.out
      rw [List.length_map] at hi3 ⊢
      generalize hY : (every m (m : Int)).length = n2 at *
      have HY := Lib.hid hY; clear hY
      have hsz := hb3.size
      go_wp2_with (at_builtin; refine wpList_appendS rfl (.tmp 26) (.tmp 33) _ rfl 9 i0 _ Tryd.underlying27 hi0 hz0 hz1 (by omega) rfl w.heap.size (.slice none 0 0) 0 [] A3 n2 c3 _ rfl rfl hc3 (World.ownsRow_nil _ _ _ _) hi3 (by omega) hsz ?_; intro v4 w4 hown4 hb4)
      go_ret
      refine ⟨_, rfl, ResS.of_own (n := 0 + n2) (base := w.heap.size) (e := 9) ?_ (hb3.trans hb4)⟩
      have he : (every (m + 1) ((m : Int) + 1)).map (s ++ ·) = [] ++ (every m (m : Int)).map (s ++ [41] ++ ·) := by
        conv => lhs; unfold every
        rw [if_neg (by omega), if_pos (by omega), hem]
        simp [Function.comp_def]
      rw [he]; exact hown4
end Go.Proofs.YthhfkndhdjffgaaDoor
