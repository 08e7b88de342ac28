/- The law TopChanges: its walk. Condition: internal/strconv.uint64pow10 reads as the library's text lays it. -/
import Derived.Test.YtgmmlblefealjaaDoorTopS
import Derived.Test.YtgmmlblefealjaaDoorEdS
import Derived.Test.YtgmmlblefealjaaDoorEdL
import Derived.Test.YtgmmlblefealjaaDoorBookL
namespace Go.Proofs.YtgmmlblefealjaaDoor
open Go.RowKit IntWalk
attribute [local go_sem] byte_at str_app
attribute [local go_sem ↓] Go.wp_at_zero Go.wp_at_succ

set_option maxHeartbeats 1000000 in
theorem steps_err (a b : List UInt8) (w : World) (h : 24 < a.length ∨ 24 < b.length) :
    Calls Tryd.prog 5 #[S a, S b] w fun e w' => e = .returned (.tuple #[S [], errV 4]) ∧ Below w.heap.size w w' := by
  have HB0 := Lib.hid ((Below.refl _ w).alloc (Nat.le_refl _) (.cells #[S a, S b] 9))
  have HC : Hid (Calls Tryd.prog 19 #[.int .i64 24, .slice (some ⟨w.heap.size, 0, none⟩) 2 2] (w.alloc (.cells #[S a, S b] 9)) fun e w' => e = .returned (errV 4) ∧ w.alloc (.cells #[S a, S b] 9) = w') := Lib.hid (by
    have c0 : (w.alloc (.cells #[S a, S b] 9)).cell? ⟨w.heap.size, 0, none⟩ = some (S a) := cell_of_row _ _ 0 #[S a, S b] 9 (0, 0) (heap_alloc_new w _)
    have c1 : (w.alloc (.cells #[S a, S b] 9)).cell? ⟨w.heap.size, 0 + 1, none⟩ = some (S b) := cell_of_row _ _ 1 #[S a, S b] 9 (0, 0) (heap_alloc_new w _)
    rcases Nat.lt_or_ge 24 a.length with ha | ha
    · exact long2_a 24 a _ _ _ c0 (by omega)
    · exact long2_b 24 a b _ _ _ c0 c1 (by omega) (by omega))
  clear h
  go_enter Tryd.func5, Tryd.ntmps5
  go_wp2_with fail
  refine HC.out.mono ?_
  rintro e w' ⟨rfl, rfl⟩
  rw [show errV 4 = .iface 56 (.int .i64 4) from rfl]
  generalize w.alloc (.cells #[S a, S b] 9) = w0 at *
  clear HC
  go_wp2_with fail
  go_ret2
  exact ⟨rfl, HB0.out⟩
theorem inT_any (n lo hi : Int) (w : World) :
    Calls Tryd.prog 12 #[.int .i64 n, .int .i64 lo, .int .i64 hi] w fun e w' => e = .returned (.bool (decide (lo ≤ n ∧ n ≤ hi))) ∧ w = w' := by
  by_cases h1 : lo ≤ n
  · by_cases h2 : n ≤ hi
    all_goals
      go_enter Tryd.func12, Tryd.ntmps12
      go_wp2
      go_ret
      exact ⟨by simp [h1, h2], rfl⟩
  · go_enter Tryd.func12, Tryd.ntmps12
    go_wp2
    go_ret
    exact ⟨ret_bool (by simp [show ¬ lo ≤ n from by omega]), rfl⟩
theorem ed_one : ed [97] [98] = 1 := by
  show dd [97] [98] 1 1 = 1
  rw [dd_ne (by decide), dd_row0, dd_col0, dd_row0]
  rfl
theorem steps_one : stepsM [97] [98] = [33] := by
  have hn : nxt [97] [98] = (33, [], []) := nxt_sub (by decide) (by rw [ed_one, ed_nil])
  rw [stepsM_cons (by simp), hn]
  rfl
/-- A letter. -/
def lw (c : UInt8) : Prop := 97 ≤ c.toNat ∧ c.toNat ≤ 122
theorem word_one {c : UInt8} (h : lw c) : wordE [c] = 0 := by
  unfold wordE
  rw [if_neg (by simp), if_neg (by simp)]
  have : lo c = true := by
    unfold lo
    exact decide_eq_true h
  simp [this]
/-- One letter put in. -/
theorem put_one {st : BS} {k : Nat} {c : UInt8} (hk : k ≤ st.now.length) (hc : lw c) (hl : st.now.length < 24) (hm : st.many < 60) :
    (putS st (k : Int) [c]).1 = 0 ∧ (putS st (k : Int) [c]).2.now = st.now.take k ++ c :: st.now.drop k ∧ (putS st (k : Int) [c]).2.many = st.many + 1 := by
  have h0 : putE st.now st.many (k : Int) [c] = 0 := by
    unfold putE
    rw [if_neg (fun h => h ⟨by omega, by omega⟩), if_neg (fun h => h (word_one hc)), if_neg (by simp; omega)]
  refine ⟨h0, ?_, ?_⟩
  · unfold putS; simp only [if_pos h0]; simp [putN]
  · unfold putS; simp only [if_pos h0]
/-- One sign cut out. -/
theorem cut_one {st : BS} {k : Nat} (hk : k < st.now.length) (hm : st.many < 60) :
    (cutS st (k : Int) 1).1 = 0 ∧ (cutS st (k : Int) 1).2.now = st.now.take k ++ st.now.drop (k + 1) ∧ (cutS st (k : Int) 1).2.many = st.many + 1 := by
  have h0 : cutE st.now st.many (k : Int) 1 = 0 := by
    unfold cutE
    rw [if_neg (fun h => h ⟨by omega, by omega⟩), if_neg (fun h => h ⟨by omega, by omega⟩), if_neg (by omega)]
  refine ⟨h0, ?_, ?_⟩
  · unfold cutS; simp only [if_pos h0]; simp [cutN]
  · unfold cutS; simp only [if_pos h0]
theorem take_app {b x : List UInt8} {j : Nat} (hj : j ≤ b.length) : (b.take j ++ x).take j = b.take j ∧ (b.take j ++ x).drop j = x ∧ (b.take j ++ x).length = j + x.length := by
  have h : (b.take j).length = j := by rw [List.length_take]; omega
  refine ⟨?_, ?_, by rw [List.length_append, h]⟩
  · rw [List.take_append_of_le_length (by omega), List.take_take, Nat.min_self]
  · rw [List.drop_append_of_le_length (by omega), List.drop_of_length_le (by omega), List.nil_append]

/-- What holds in the last loop: the book's text is what stands of the new one, and what is left of the old one. -/
structure Ch (b : List UInt8) (st : BS) (at_ : Nat) (x y : List UInt8) : Prop where
  now : st.now = b.take at_ ++ x
  rest : y = b.drop at_
  le : at_ ≤ b.length
  sm : Smalls st
  many : st.many + x.length + y.length ≤ 40
  few : x.length + b.length ≤ 20
theorem Ch.keep {b : List UInt8} {st : BS} {k : Nat} {c : UInt8} {x y : List UInt8} (h : Ch b st k (c :: x) (c :: y)) : Ch b st (k + 1) x y := by
  obtain ⟨h1, h2, h3, h4, h5, h6⟩ := h
  have hl : k < b.length := by
    rcases Nat.lt_or_ge k b.length with q | q
    · exact q
    · rw [List.drop_of_length_le q] at h2; cases h2
  rw [drop_bu hl] at h2
  injection h2 with e1 e2
  refine ⟨by rw [h1, take_succ_bu hl, e1]; simp, e2, by omega, h4, ?_, ?_⟩
  · simp only [List.length_cons] at h5; omega
  · simp only [List.length_cons] at h6; omega
theorem Ch.put {b : List UInt8} {st : BS} {k : Nat} {d : UInt8} {x y : List UInt8} (h : Ch b st k x (d :: y)) (hb : ∀ c ∈ b, lw c) : k < b.length ∧ bu b k = d ∧ (putS st (k : Int) [d]).1 = 0 ∧ Ch b (putS st (k : Int) [d]).2 (k + 1) x y := by
  obtain ⟨h1, h2, h3, h4, h5, h6⟩ := h
  have hl : k < b.length := by
    rcases Nat.lt_or_ge k b.length with q | q
    · exact q
    · rw [List.drop_of_length_le q] at h2; cases h2
  rw [drop_bu hl] at h2
  injection h2 with e1 e2
  obtain ⟨t1, t2, t3⟩ := take_app (x := x) h3
  simp only [List.length_cons] at h5
  obtain ⟨p1, p2, p3⟩ := put_one (st := st) (k := k) (c := d) (by rw [h1, t3]; omega) (by rw [e1]; exact hb _ (bu_mem hl)) (by rw [h1, t3]; omega) (by omega)
  refine ⟨hl, e1.symm, p1, by rw [p2, h1, t1, t2, take_succ_bu hl, e1]; simp, e2, by omega, putS_small h4 _ _, by rw [p3]; omega, h6⟩
theorem Ch.cut {b : List UInt8} {st : BS} {k : Nat} {c : UInt8} {x y : List UInt8} (h : Ch b st k (c :: x) y) : (cutS st (k : Int) 1).1 = 0 ∧ Ch b (cutS st (k : Int) 1).2 k x y := by
  obtain ⟨h1, h2, h3, h4, h5, h6⟩ := h
  obtain ⟨t1, t2, t3⟩ := take_app (x := c :: x) h3
  simp only [List.length_cons] at h5 h6 t3
  obtain ⟨p1, p2, p3⟩ := cut_one (st := st) (k := k) (by rw [h1, t3]; omega) (by omega)
  refine ⟨p1, by rw [p2, h1, t1, ← List.drop_drop, t2]; rfl, h2, h3, cutS_small h4 _ _, by rw [p3]; omega, by omega⟩
theorem Ch.fin {b : List UInt8} {st : BS} {k : Nat} (h : Ch b st k [] []) : st.now = b := by
  have h2 := h.rest
  have : b.length ≤ k := List.drop_eq_nil_iff.1 h2.symm
  rw [h.now, List.take_of_length_le this, List.append_nil]
theorem Steps.inv {x y r : List UInt8} {v : UInt8} (h : Steps x y (v :: r)) : ∃ x' y', Stp x y v x' y' ∧ Steps x' y' r := by
  cases h with
  | cons h1 h2 => exact ⟨_, _, h1, h2⟩
theorem Stp.ways {x y x' y' : List UInt8} {v : UInt8} (h : Stp x y v x' y') : (∃ c, v.toNat = 61 ∧ x = c :: x' ∧ y = c :: y') ∨ (∃ c d, v.toNat = 33 ∧ x = c :: x' ∧ y = d :: y') ∨ (∃ d, v.toNat = 43 ∧ x' = x ∧ y = d :: y') ∨ (∃ c, v.toNat = 45 ∧ x = c :: x' ∧ y' = y) := by
  cases h with
  | keep c => exact .inl ⟨c, rfl, rfl, rfl⟩
  | sub c d => exact .inr (.inl ⟨c, d, rfl, rfl, rfl⟩)
  | ins d => exact .inr (.inr (.inl ⟨d, rfl, rfl, rfl⟩))
  | del c => exact .inr (.inr (.inr ⟨c, rfl, rfl, rfl⟩))
theorem mid_one {b : List UInt8} {k : Nat} (h : k < b.length) : (ByteArray.mk b.toArray).extract k (k + 1) = ByteArray.mk [bu b k].toArray := by
  rw [Lib.extract_eq]
  congr 2
  rw [show (⟨b.toArray⟩ : ByteArray).data.toList = b from rfl, drop_bu h]
  simp

set_option maxRecDepth 100000 in
set_option maxHeartbeats 20000000 in
theorem topChanges_walk (w : World) (a b : List UInt8) (ht : TG w) (ha9 : a.length ≤ 9223372036854775807) (hb9 : b.length ≤ 9223372036854775807) :
    Calls Tryd.prog 3 #[S a, S b] w fun e w' => e = .returned (.bool true) ∧ Below w.heap.size w w' := by
  have HT := Lib.hid ht
  clear ht
  by_cases h24 : 24 < a.length ∨ 24 < b.length
  · go_enter Tryd.func3, Tryd.ntmps3
    go_wp2_with fail
    refine (steps_err a b w h24).mono ?_
    rintro e w1 ⟨rfl, hb1⟩
    have HB1 := Lib.hid hb1
    clear hb1 h24
    rw [show errV 4 = .iface 56 (.int .i64 4) from rfl]
    go_wp2_with fail
    refine (steps_any [97] [98] w1 (by decide) (by decide)).mono ?_
    rintro e w2 ⟨rfl, hb2⟩
    have HB2 := Lib.hid (HB1.out.trans (hb2.mono HB1.out.size))
    clear hb2 HB1
    rw [steps_one]
    go_wp2_with fail
    go_ret
    exact ⟨rfl, HB2.out⟩
  have ha24 : a.length ≤ 24 := by omega
  have hb24 : b.length ≤ 24 := by omega
  clear h24 ha9 hb9
  obtain ⟨o1, o2, o3, o4⟩ := steps_ok a b
  have hed := ed_bound a b
  have hlc := lc_le a b
  have HST := Lib.hid o1
  have hcnt := stands_count (stepsM a b) 61
  have HC := Lib.hid hcnt
  have HL := Lib.hid (fun W => steps_any a b W ha24 hb24)
  have HN := Lib.hid (fun W => standsR_any (stepsM a b) [61] W (by omega))
  clear hcnt o1
  generalize stepsM a b = s at *
  generalize hk : s.count 61 = kept at *
  generalize hE : ed a b = k at *
  generalize hLc : lc a b = n at *
  have HK := Lib.hid hk; have HE := Lib.hid hE; have HLc := Lib.hid hLc
  clear hk hE hLc
  go_enter Tryd.func3, Tryd.ntmps3
  go_wp2_with fail
  refine (HL.out w).mono ?_
  rintro e w1 ⟨rfl, hb1⟩
  have HB1 := Lib.hid hb1
  clear hb1
  go_wp2_with fail
  refine (steps_any [97] [98] w1 (by decide) (by decide)).mono ?_
  rintro e w2 ⟨rfl, hb2⟩
  have HB2 := Lib.hid (HB1.out.trans (hb2.mono HB1.out.size))
  clear hb2 HB1
  rw [steps_one]
  go_wp2_with fail
  refine (long_any a b w2 ha24 hb24).mono ?_
  rintro e w3 ⟨rfl, hb3⟩
  have HB3 := Lib.hid (HB2.out.trans (hb3.mono HB2.out.size))
  clear hb3 HB2
  rw [HLc.out]
  go_wp2_with fail
  refine (far_any a b w3 ha24 hb24).mono ?_
  rintro e w4 ⟨rfl, hb4⟩
  have HB4 := Lib.hid (HB3.out.trans (hb4.mono HB3.out.size))
  clear hb4 HB3
  rw [HE.out]
  go_wp2_with fail
  refine (HN.out w4).mono ?_
  rintro e w5 ⟨⟨A5, k5, rfl⟩, hb5⟩
  have HB5 := Lib.hid (HB4.out.trans (hb5.mono HB4.out.size))
  clear hb5 HB4 HN HL
  rw [HC.out]
  have p1 : ¬ n < kept := by omega
  have p2 : IntKind.i64.wrap ((kept : Int) + (k : Int)) = (kept : Int) + (k : Int) := i64_in _ (by omega)
  have p3 : ((s.length : Int) != (kept : Int) + (k : Int)) = false := by simp; omega
  have p4 : ((s.length : Int) == (kept : Int) + (k : Int)) = true := by simp; omega
  obtain ⟨N, hN⟩ : ∃ N, N = a.length + b.length := ⟨_, rfl⟩
  have p5 : IntKind.i64.wrap ((a.length : Int) + (b.length : Int)) = (N : Int) := by rw [i64_in _ (by omega)]; omega
  have HNN := Lib.hid hN
  clear hN
  have HO2 := Lib.hid o2
  clear o2 hed
  go_wp2_with fail
  clear p3 p4 p2
  go_loopg [14] a.length (fun f iv wr => ∃ i : Nat, i + f = a.length ∧ iv = .int .i64 (i : Int) ∧ Hid (∀ j, j < i → lw (bu a j)) ∧ w5 = wr)
  case atStart => exact ⟨0, by omega, rfl, Lib.hid (fun j h => absurd h (by omega)), rfl⟩
  case round =>
    obtain ⟨i, hif, rfl, HLW, rfl⟩ := hrel
    by_cases hlt : i < a.length
    · obtain ⟨f, rfl⟩ : ∃ f, gk = f + 1 := ⟨gk - 1, by omega⟩
      have p6 : (i : Int) < (a.length : Int) := by omega
      have p7 : IntKind.i64.wrap ((i : Int) + 1) = (i : Int) + 1 := i64_in _ (by omega)
      by_cases h1 : (bu a i).toNat < 97
      · have q1 : ((bu a i).toNat : Int) < 97 := by omega
        go_wp2_with fail
        go_ret
        exact ⟨rfl, HB5.out⟩
      · by_cases h2 : 122 < (bu a i).toNat
        · have q1 : ¬ ((bu a i).toNat : Int) < 97 := by omega
          have q2 : (122 : Int) < ((bu a i).toNat : Int) := by omega
          go_wp2_with fail
          go_ret
          exact ⟨rfl, HB5.out⟩
        · have q1 : ¬ ((bu a i).toNat : Int) < 97 := by omega
          have q2 : ¬ (122 : Int) < ((bu a i).toNat : Int) := by omega
          have HLW2 : Hid (∀ j, j < i + 1 → lw (bu a j)) := Lib.hid fun j hj => by
            rcases Nat.lt_or_ge j i with hl | hl
            · exact HLW.out j hl
            · obtain rfl : j = i := by omega
              exact ⟨by omega, by omega⟩
          go_wp2_with fail
          go_roundg f
          case measure => omega
          case rel => exact ⟨i + 1, by omega, by simp, HLW2, rfl⟩
    · obtain rfl : i = a.length := by omega
      have HA : Hid (∀ c ∈ a, lw c) := Lib.hid fun c hc => by
        obtain ⟨j, hj, e⟩ := List.getElem_of_mem hc
        rw [← e, ← bu_eq hj]; exact HLW.out j hj
      clear HLW hif hlt
      have p6 : ¬ (a.length : Int) < (a.length : Int) := by omega
      go_wp2_with fail
      clear p6
      go_loopg [15] b.length (fun f iv wr => ∃ i : Nat, i + f = b.length ∧ iv = .int .i64 (i : Int) ∧ Hid (∀ j, j < i → lw (bu b j)) ∧ w5 = wr)
      case atStart => exact ⟨0, by omega, rfl, Lib.hid (fun j h => absurd h (by omega)), rfl⟩
      case round =>
        obtain ⟨i, hif, rfl, HLW, rfl⟩ := hrel
        by_cases hlt : i < b.length
        · obtain ⟨f, rfl⟩ : ∃ f, gk = f + 1 := ⟨gk - 1, by omega⟩
          have p6 : (i : Int) < (b.length : Int) := by omega
          have p7 : IntKind.i64.wrap ((i : Int) + 1) = (i : Int) + 1 := i64_in _ (by omega)
          by_cases h1 : (bu b i).toNat < 97
          · have q1 : ((bu b i).toNat : Int) < 97 := by omega
            go_wp2_with fail
            go_ret
            exact ⟨rfl, HB5.out⟩
          · by_cases h2 : 122 < (bu b i).toNat
            · have q1 : ¬ ((bu b i).toNat : Int) < 97 := by omega
              have q2 : (122 : Int) < ((bu b i).toNat : Int) := by omega
              go_wp2_with fail
              go_ret
              exact ⟨rfl, HB5.out⟩
            · have q1 : ¬ ((bu b i).toNat : Int) < 97 := by omega
              have q2 : ¬ (122 : Int) < ((bu b i).toNat : Int) := by omega
              have HLW2 : Hid (∀ j, j < i + 1 → lw (bu b j)) := Lib.hid fun j hj => by
                rcases Nat.lt_or_ge j i with hl | hl
                · exact HLW.out j hl
                · obtain rfl : j = i := by omega
                  exact ⟨by omega, by omega⟩
              go_wp2_with fail
              go_roundg f
              case measure => omega
              case rel => exact ⟨i + 1, by omega, by simp, HLW2, rfl⟩
        · obtain rfl : i = b.length := by omega
          have HBL : Hid (∀ c ∈ b, lw c) := Lib.hid fun c hc => by
            obtain ⟨j, hj, e⟩ := List.getElem_of_mem hc
            rw [← e, ← bu_eq hj]; exact HLW.out j hj
          clear HLW hif hlt
          by_cases h20 : N ≤ 20
          rotate_left
          · have p8 : (20 : Int) < (N : Int) := by omega
            go_wp2_with fail
            go_ret
            exact ⟨rfl, HB5.out⟩
          have p8 : ¬ (20 : Int) < (N : Int) := by omega
          have HT5 := Lib.hid (HT.out.below HB5.out (Nat.le_refl _))
          have HLT5 := Lib.hid HT5.out.lt
          have HZ5 := Lib.hid HB5.out.size
          go_wp2_with fail
          refine (new_any nF w5 (fun _ _ h => by cases h)).mono ?_
          rintro e w6 ⟨rfl, hk6, hb6⟩
          have HK6 := Lib.hid (show Bks nF w5.heap.size w5.heap.size ⟨[], [], 0⟩ w6 from hk6); have HB6 := Lib.hid hb6
          clear hk6 hb6 p8
          go_wp2_with fail
          go_loopg [17] a.length (fun f iv wr => ∃ (i : Nat) (st : BS), i + f = a.length ∧ iv = .int .i64 (i : Int) ∧ Hid (Bks nF w5.heap.size w5.heap.size st wr) ∧ Hid (st.now = a.take i ∧ st.many = i ∧ Smalls st) ∧ Hid (Below w5.heap.size w5 wr))
          case atStart => exact ⟨0, _, by omega, rfl, HK6, Lib.hid ⟨rfl, rfl, by decide, by decide, by decide⟩, HB6⟩
          case round =>
            clear HK6 HB6
            obtain ⟨i, st, hif, rfl, HK, HS, HB⟩ := hrel
            have hNN := HNN.out
            by_cases hlt : i < a.length
            · obtain ⟨f, rfl⟩ : ∃ f, gk = f + 1 := ⟨gk - 1, by omega⟩
              have hnl : st.now.length = i := by rw [HS.out.1, List.length_take]; omega
              obtain ⟨u1, u2, u3⟩ := put_one (st := st) (k := i) (c := bu a i) (by omega) (HA.out _ (bu_mem hlt)) (by omega) (by have := HS.out.2.1; omega)
              have fe := mid_one hlt
              have HS2 : Hid ((putS st (i : Int) [bu a i]).2.now = a.take (i + 1) ∧ (putS st (i : Int) [bu a i]).2.many = i + 1 ∧ Smalls (putS st (i : Int) [bu a i]).2) := Lib.hid ⟨by rw [u2, HS.out.1, take_succ_bu hlt, List.take_take, Nat.min_self, List.drop_of_length_le (by rw [List.length_take]; omega)], by rw [u3, HS.out.2.1], putS_small HS.out.2.2 _ _⟩
              have HU1 := Lib.hid u1
              have HSM := Lib.hid HS.out.2.2
              have HTr := Lib.hid (HT5.out.below HB.out (Nat.le_refl _))
              have p6 : (i : Int) < (a.length : Int) := by omega
              have p7 : IntKind.i64.wrap ((i : Int) + 1) = (i : Int) + 1 := i64_in _ (by omega)
              have p8 : (i : Int) ≤ (i : Int) + 1 := by omega
              have p9 : (i : Int) + 1 ≤ (a.length : Int) := by omega
              have p10 : ((i : Int) + 1).toNat = i + 1 := by omega
              have p11 : (0 : Int) ≤ (i : Int) + 1 := by omega
              clear u1 u2 u3 hnl HS hNN
              go_wp2_with fail
              refine (put_s nF w5.heap.size w5.heap.size st [bu a i] (i : Int) wr HK.out HTr.out HSM.out (by simp) HB.out.size HLT5.out).mono ?_
              rintro e w7 ⟨rfl, hb7, hk7⟩
              have HB7 := Lib.hid (HB.out.trans hb7)
              have HK7 := Lib.hid hk7
              clear hb7 hk7 HK HB HTr
              rw [HU1.out, show errV 0 = .nilIface from rfl]
              go_wp2_with fail
              go_roundg f
              case measure => omega
              case rel => exact ⟨i + 1, _, by omega, by simp, HK7, HS2, HB7⟩
            · obtain rfl : i = a.length := by omega
              have HCH : Hid (Ch b st 0 a b) := Lib.hid ⟨by rw [HS.out.1, List.take_length]; rfl, rfl, by omega, HS.out.2.2, by have := HS.out.2.1; omega, by omega⟩
              have p6 : ¬ (a.length : Int) < (a.length : Int) := by omega
              clear HS hNN hif hlt
              go_wp2_with fail
              go_loopg [18, 19] s.length (fun f av iv wr => ∃ (i at_ : Nat) (st : BS) (x y : List UInt8), i + f = s.length ∧ av = .int .i64 (at_ : Int) ∧ iv = .int .i64 (i : Int) ∧ Hid (Bks nF w5.heap.size w5.heap.size st wr) ∧ Hid (Ch b st at_ x y) ∧ Hid (Steps x y (s.drop i)) ∧ Hid (Below w5.heap.size w5 wr))
              case atStart => exact ⟨0, 0, st, a, b, by omega, rfl, rfl, HK, HCH, HST, HB⟩
              case round =>
                clear HK HCH HST HB
                obtain ⟨i, at_, st, x, y, hif, rfl, rfl, HK, HCH, HST, HB⟩ := hrel
                by_cases hlt : i < s.length
                · obtain ⟨f, rfl⟩ : ∃ f, gk = f + 1 := ⟨gk - 1, by omega⟩
                  have hst := HST.out
                  rw [drop_bu hlt] at hst
                  obtain ⟨x', y', hstp, hst2⟩ := hst.inv
                  have HST2 := Lib.hid hst2
                  have HC0 := HCH; have HK0 := HK; have HW0 := HB
                  have p6 : (i : Int) < (s.length : Int) := by omega
                  have p7 : IntKind.i64.wrap ((i : Int) + 1) = (i : Int) + 1 := i64_in _ (by omega)
                  have hat := HCH.out.le
                  have b2' : IntKind.i64.wrap ((at_ : Int) + 1) = (at_ : Int) + 1 := i64_in _ (by omega)
                  clear HST hst hst2 HCH HK HB
                  rcases hstp.ways with ⟨c, hv, rfl, rfl⟩ | ⟨c, d, hv, rfl, rfl⟩ | ⟨d, hv, rfl, rfl⟩ | ⟨c, hv, rfl, rfl⟩
                  · have HC1 := Lib.hid HC0.out.keep
                    clear hstp HC0
                    go_wp2_with fail
                    go_roundg f
                    case measure => omega
                    case rel => exact ⟨i + 1, at_ + 1, _, _, _, by omega, by simp, by simp, HK0, HC1, HST2, HW0⟩
                  · clear hstp
                    obtain ⟨u0, HC1'⟩ := HC0.out.cut
                    have U0 := Lib.hid u0
                    have HC1 := Lib.hid HC1'
                    have HSM0 := Lib.hid HC0.out.sm
                    have HT0 := Lib.hid (HT5.out.below HW0.out (Nat.le_refl _))
                    clear u0 HC1' HC0
                    go_wp2_with fail
                    refine (cut_s nF w5.heap.size w5.heap.size _ (at_ : Int) 1 _ HK0.out HT0.out HSM0.out HLT5.out).mono ?_
                    rintro e v1 ⟨rfl, hb7, hk7⟩
                    have HW1 := Lib.hid (HW0.out.trans hb7)
                    have HK1 := Lib.hid hk7
                    clear hb7 hk7 HK0 HW0 HT0 HSM0
                    rw [U0.out, show errV 0 = .nilIface from rfl]
                    obtain ⟨hl, hd, u1, HC2'⟩ := HC1.out.put HBL.out
                    have U1 := Lib.hid u1
                    have HC2 := Lib.hid HC2'
                    have HSM1 := Lib.hid HC1.out.sm
                    have HT1 := Lib.hid (HT5.out.below HW1.out (Nat.le_refl _))
                    have fe := mid_one hl
                    rw [hd] at fe
                    have b1 : IntKind.i64.wrap ((b.length : Int) - 1) = (b.length : Int) - 1 := i64_in _ (by omega)
                    have b2 : IntKind.i64.wrap ((at_ : Int) + 1) = (at_ : Int) + 1 := i64_in _ (by omega)
                    have b3 : (at_ : Int) ≤ (at_ : Int) + 1 := by omega
                    have b4 : (at_ : Int) + 1 ≤ (b.length : Int) := by omega
                    have b5 : ((at_ : Int) + 1).toNat = at_ + 1 := by omega
                    have b6 : (0 : Int) ≤ (at_ : Int) + 1 := by omega
                    clear u1 HC2' HC1 hd
                    go_wp2_with fail
                    refine (inT_any (at_ : Int) 0 ((b.length : Int) - 1) _).mono ?_
                    rintro e w' ⟨rfl, rfl⟩
                    rw [decide_eq_true (show (0 : Int) ≤ (at_ : Int) ∧ (at_ : Int) ≤ (b.length : Int) - 1 from ⟨by omega, by omega⟩)]
                    go_wp2_with fail
                    refine (put_s nF w5.heap.size w5.heap.size _ [d] (at_ : Int) _ HK1.out HT1.out HSM1.out (by simp) HW1.out.size HLT5.out).mono ?_
                    rintro e v2 ⟨rfl, hb7, hk7⟩
                    have HW2 := Lib.hid (HW1.out.trans hb7)
                    have HK2 := Lib.hid hk7
                    clear hb7 hk7 HK1 HW1 HT1 HSM1
                    rw [U1.out, show errV 0 = .nilIface from rfl]
                    go_wp2_with fail
                    go_roundg f
                    case measure => omega
                    case rel => exact ⟨i + 1, at_ + 1, _, _, _, by omega, by simp, by simp, HK2, HC2, HST2, HW2⟩
                  · clear hstp
                    obtain ⟨hl, hd, u0, HC1'⟩ := HC0.out.put HBL.out
                    have U0 := Lib.hid u0
                    have HC1 := Lib.hid HC1'
                    have HSM0 := Lib.hid HC0.out.sm
                    have HT0 := Lib.hid (HT5.out.below HW0.out (Nat.le_refl _))
                    have fe := mid_one hl
                    rw [hd] at fe
                    have b1 : IntKind.i64.wrap ((b.length : Int) - 1) = (b.length : Int) - 1 := i64_in _ (by omega)
                    have b2 : IntKind.i64.wrap ((at_ : Int) + 1) = (at_ : Int) + 1 := i64_in _ (by omega)
                    have b3 : (at_ : Int) ≤ (at_ : Int) + 1 := by omega
                    have b4 : (at_ : Int) + 1 ≤ (b.length : Int) := by omega
                    have b5 : ((at_ : Int) + 1).toNat = at_ + 1 := by omega
                    have b6 : (0 : Int) ≤ (at_ : Int) + 1 := by omega
                    clear u0 HC1' HC0 hd
                    go_wp2_with fail
                    refine (inT_any (at_ : Int) 0 ((b.length : Int) - 1) _).mono ?_
                    rintro e w' ⟨rfl, rfl⟩
                    rw [decide_eq_true (show (0 : Int) ≤ (at_ : Int) ∧ (at_ : Int) ≤ (b.length : Int) - 1 from ⟨by omega, by omega⟩)]
                    go_wp2_with fail
                    refine (put_s nF w5.heap.size w5.heap.size _ [d] (at_ : Int) _ HK0.out HT0.out HSM0.out (by simp) HW0.out.size HLT5.out).mono ?_
                    rintro e v1 ⟨rfl, hb7, hk7⟩
                    have HW1 := Lib.hid (HW0.out.trans hb7)
                    have HK1 := Lib.hid hk7
                    clear hb7 hk7 HK0 HW0 HT0 HSM0
                    rw [U0.out, show errV 0 = .nilIface from rfl]
                    go_wp2_with fail
                    go_roundg f
                    case measure => omega
                    case rel => exact ⟨i + 1, at_ + 1, _, _, _, by omega, by simp, by simp, HK1, HC1, HST2, HW1⟩
                  · clear hstp
                    obtain ⟨u0, HC1'⟩ := HC0.out.cut
                    have U0 := Lib.hid u0
                    have HC1 := Lib.hid HC1'
                    have HSM0 := Lib.hid HC0.out.sm
                    have HT0 := Lib.hid (HT5.out.below HW0.out (Nat.le_refl _))
                    clear u0 HC1' HC0
                    go_wp2_with fail
                    refine (cut_s nF w5.heap.size w5.heap.size _ (at_ : Int) 1 _ HK0.out HT0.out HSM0.out HLT5.out).mono ?_
                    rintro e v1 ⟨rfl, hb7, hk7⟩
                    have HW1 := Lib.hid (HW0.out.trans hb7)
                    have HK1 := Lib.hid hk7
                    clear hb7 hk7 HK0 HW0 HT0 HSM0
                    rw [U0.out, show errV 0 = .nilIface from rfl]
                    go_wp2_with fail
                    go_roundg f
                    case measure => omega
                    case rel => exact ⟨i + 1, at_, _, _, _, by omega, rfl, by simp, HK1, HC1, HST2, HW1⟩
                · obtain rfl : i = s.length := by omega
                  have hst := HST.out
                  rw [List.drop_of_length_le (Nat.le_refl _)] at hst
                  have HNW : Hid (st.now = b) := Lib.hid (by cases hst; exact HCH.out.fin)
                  have p6 : ¬ (s.length : Int) < (s.length : Int) := by omega
                  clear HST HCH hst
                  go_wp2_with fail
                  refine (now_any _ _ _ _ _ _ _ HK.out).mono ?_
                  rintro e w' ⟨rfl, rfl⟩
                  rw [HNW.out]
                  go_wp2_with fail
                  go_ret
                  exact ⟨ret_bool (by simp), HB5.out.trans (HB.out.mono HZ5.out)⟩
end Go.Proofs.YtgmmlblefealjaaDoor
