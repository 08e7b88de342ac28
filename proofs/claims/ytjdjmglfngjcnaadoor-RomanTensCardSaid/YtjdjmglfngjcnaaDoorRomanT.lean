/- The walk over the law RomanTens. Condition: the variable roman.parts reads as the program's text lays it. -/
import Derived.Test.YtjdjmglfngjcnaaDoorRomanL
import Derived.IntWalk
namespace Go.Proofs.YtjdjmglfngjcnaaDoor
open Go.RowKit RomanM
theorem str_to (a : List UInt8) (k : Nat) : (ByteArray.mk a.toArray).extract 0 k = ByteArray.mk (a.take k).toArray := by
  rw [Lib.extract_eq]; simp
theorem str_one {a : List UInt8} {i : Nat} (h : i < a.length) : (ByteArray.mk a.toArray).extract i (i + 1) = ByteArray.mk [bu a i].toArray := by
  rw [Lib.extract_eq, show i + 1 - i = 1 by omega, List.drop_eq_getElem_cons h, bu_eq h]; rfl
attribute [local go_sem] byte_at str_app
attribute [local irreducible] RomanM.wr RomanM.rd RomanM.rOut RomanM.wOut
theorem hasP_take (a s : List UInt8) : hasP a s = (decide (s.length ≤ a.length) && (a.take s.length == s)) := by
  rw [← hasP_eq, Lib.hasPrefix]
  rw [Bool.eq_iff_iff]
  simp only [List.isPrefixOf_iff_prefix, List.prefix_iff_eq_take, Bool.and_eq_true, decide_eq_true_eq, beq_iff_eq]
  constructor
  · intro h
    refine ⟨?_, h.symm⟩
    rw [h]; simp; omega
  · intro h; exact h.2.symm
set_option maxHeartbeats 400000 in
theorem begins_any (a s : List UInt8) (w : World) :
    Calls Tryd.prog 19 #[S a, S s] w fun e w' => e = .returned (.bool (hasP a s)) ∧ w = w' := by
  have HH := Lib.hid (hasP_take a s)
  by_cases h : s.length ≤ a.length
  · have hx := str_to a s.length
    go_enter Tryd.func19, Tryd.ntmps19
    go_wp2_with fail
    go_ret
    exact ⟨ret_bool (by rw [HH.out]; simp [h]), rfl⟩
  · have hd : decide ((s.length : Int) ≤ (a.length : Int)) = false := by simp; omega
    go_enter Tryd.func19, Tryd.ntmps19
    go_wp2_with fail
    go_ret
    exact ⟨ret_bool (by rw [HH.out]; simp [h]), rfl⟩
/-- Where a text stands in another one. -/
def stGo : Nat → List UInt8 → List UInt8 → Nat → List Int → List Int
  | 0, _, _, _, acc => acc
  | f + 1, t, s, i, acc => stGo f t s (i + 1) (if hasP (t.drop i) s then acc ++ [(i : Int)] else acc)
def stands (t s : List UInt8) : List Int := stGo t.length t s 0 []
theorem info_int : (Tryd.prog.info? 3).map (fun i => (i.zero, i.size, i.bytes)) = some (some (.int .i64 0), 1, 8) := by kernel_rfl
set_option maxRecDepth 100000 in
set_option maxHeartbeats 1000000 in
theorem stands_any (t s : List UInt8) (w : World) (ht : t.length ≤ 1000000) :
    Calls Tryd.prog 9 #[S t, S s] w fun e w' => ∃ A c, e = .returned (.slice A (stands t s).length c) ∧ Ints w' w'.heap.size A (stands t s).length (stands t s) ∧ Below w.heap.size w w' := by
  obtain ⟨i0, hi0, hz0, hz1, hz2⟩ := info_parts info_int
  obtain ⟨T, hT0⟩ : ∃ T, stands t s = T := ⟨_, rfl⟩
  rw [hT0]
  have HT0 := Lib.hid (show stGo t.length t s 0 [] = T from hT0); clear hT0
  go_enter Tryd.func9, Tryd.ntmps9
  go_wp2_with fail
  go_loopg [5, 6] t.length (fun f v iv wr => ∃ i : Nat, ∃ acc : List Int, i + f = t.length ∧ iv = .int .i64 i ∧ acc.length ≤ i ∧ Below w.heap.size w wr ∧ wr.ownsRow w.heap.size 3 1 v (acc.map (Value.int .i64)).length (acc.map (Value.int .i64)) ∧ stGo f t s i acc = T)
  case atStart => exact ⟨0, [], by omega, rfl, by simp, Below.refl _ _, World.ownsRow_nil _ _ _ _, HT0.out⟩
  case round =>
    obtain ⟨i, acc, hif, rfl, hacc, hB, hown, hT⟩ := hrel
    have HT := Lib.hid hT; clear hT
    have Hown := Lib.hid hown; clear hown
    by_cases hlt : i < t.length
    · obtain ⟨f, rfl⟩ : ∃ f, gk = f + 1 := ⟨gk - 1, by omega⟩
      have hx := str_from t i
      have HC := Lib.hid (begins_any (t.drop i) s)
      by_cases hp : hasP (t.drop i) s = true
      · have HT2 : Hid (stGo f t s (i + 1) (acc ++ [(i : Int)]) = T) := by
          have := HT.out; unfold stGo at this; rw [if_pos hp] at this; exact this
        have HP := Lib.hid hp; clear hp
        have hbs := hB.size
        go_wp2_with fail
        refine (HC.out _).mono ?_
        rintro e w' ⟨rfl, rfl⟩
        rw [HP.out]
        go_wp2_with (at_builtin; refine wpList_append1 rfl (.tmp 18) (.tmp 20) _ rfl 3 i0 _ Tryd.underlying30 hi0 hz0 hz1 (by omega) rfl w.heap.size _ _ (.int .i64 (i : Int)) rfl rfl rfl Hown.out (by simp; omega) hbs ?_; intro v' w' hown' hB')
        go_roundg f
        case measure => omega
        case rel => exact ⟨i + 1, acc ++ [(i : Int)], by omega, by simp, by simp; omega, hB.trans hB', by simpa using hown', HT2.out⟩
      · have HT2 : Hid (stGo f t s (i + 1) acc = T) := by
          have := HT.out; unfold stGo at this; rw [if_neg hp] at this; exact this
        have HP := Lib.hid (show hasP (t.drop i) s = false by simpa using hp); clear hp
        go_wp2_with fail
        refine (HC.out _).mono ?_
        rintro e w' ⟨rfl, rfl⟩
        rw [HP.out]
        go_wp2_with fail
        go_roundg f
        case measure => omega
        case rel => exact ⟨i + 1, acc, by omega, by simp, by omega, hB, Hown.out, HT2.out⟩
    · obtain rfl : gk = 0 := by omega
      have hTT : acc = T := HT.out
      subst hTT
      have hown : _ := Hown.out
      rw [List.length_map] at hown
      obtain ⟨A, c, rfl, hc⟩ := own_shape hown
      have HI := Lib.hid (Ints.of_own hown)
      clear hown
      go_wp2_with fail
      go_ret
      exact ⟨A, c, rfl, HI.out, hB⟩
theorem stands_seven (c : UInt8) (h : place c < 7) : stands seven [c] = [(place c : Int)] := by
  have : ∀ n : Fin 256, place (UInt8.ofNat n.val) < 7 → stands seven [UInt8.ofNat n.val] = [(place (UInt8.ofNat n.val) : Int)] := by decide +kernel
  have := this ⟨c.toNat, c.toNat_lt⟩
  simp only [UInt8.ofNat_toNat] at this
  exact this h
theorem stands_one (c : UInt8) (w : World) (h : place c < 7) :
    Calls Tryd.prog 9 #[.string ⟨#[73, 86, 88, 76, 67, 68, 77]⟩, S [c]] w fun e w' => ∃ b off cap, e = .returned (.slice (some ⟨b, off, none⟩) 1 cap) ∧ b < w'.heap.size ∧ w'.cell? ⟨b, off, none⟩ = some (.int .i64 (place c : Int)) ∧ Below w.heap.size w w' := by
  refine (stands_any seven [c] w (by decide)).mono ?_
  rw [stands_seven c h]
  rintro e w' ⟨A, cap, rfl, hI, hb⟩
  obtain ⟨b, off, rfl, hlt, hc⟩ := hI.at_ (k := 0) (by simp)
  exact ⟨b, off, cap, rfl, hlt, hc, hb⟩
set_option maxRecDepth 100000 in
set_option maxHeartbeats 1000000 in
theorem romanTens_walk (n : Int) (w : World) (hg : PG w) :
    Calls Tryd.prog 4 #[.int .i64 n] w fun e w' => e = .returned (.bool true) ∧ Below w.heap.size w w' := by
  have HPG := Lib.hid hg; clear hg
  go_enter Tryd.func4, Tryd.ntmps4
  go_wp2_with fail
  refine (fact_any w HPG.out).mono ?_
  rintro e w1 ⟨rfl, hb1⟩
  have HB1 := Lib.hid hb1; clear hb1
  have HPG1 := Lib.hid (HPG.out.below HB1.out (Nat.le_refl _))
  go_wp2_with fail
  by_cases hn : 1 ≤ n ∧ n ≤ 3999
  · obtain ⟨n1, n2⟩ := hn
    refine (write_ok n w1 ⟨n1, n2⟩ HPG1.out).mono ?_
    rintro e w2 ⟨rfl, hb2⟩
    have HB2 := Lib.hid (HB1.out.trans (hb2.mono HB1.out.size)); clear hb2
    have HL := Lib.hid (fun h : 1 ≤ n ∧ n ≤ 2999 => thousand_ h)
    have HTN := Lib.hid (fun h : 1 ≤ n ∧ n ≤ 399 => tens_ h)
    have hW15 := (back_ ⟨n1, n2⟩).2
    generalize hW : RomanM.wr n = W at *
    clear hW
    by_cases h399 : n ≤ 399
    · obtain ⟨q1, q2⟩ := HTN.out ⟨n1, h399⟩
      have HQ2 := Lib.hid q2; clear q2 HTN
      have HW2 := Lib.hid (write_ok (10 * n) w2 (by omega) (HPG.out.below HB2.out (Nat.le_refl _)))
      generalize hU : RomanM.wr (10 * n) = U at *
      clear hU
      have hle : ((U.length : Int) != (W.length : Int)) = false := by rw [q1]; simp
      go_wp2_with fail
      refine HW2.out.mono ?_
      rintro e w3 ⟨rfl, hb3⟩
      have HB3 := Lib.hid (HB2.out.trans (hb3.mono HB2.out.size)); clear hb3 HW2
      go_wp2_with fail
      go_loopg [8] W.length (fun f iv wr => ∃ i : Nat, i + f = W.length ∧ iv = .int .i64 i ∧ Below w.heap.size w wr)
      case atStart => exact ⟨0, by omega, rfl, HB3.out⟩
      case round =>
        obtain ⟨i, hif, rfl, hB⟩ := hrel
        have HB := Lib.hid hB; clear hB
        by_cases hlt : i < W.length
        · obtain ⟨f, rfl⟩ : ∃ f, gk = f + 1 := ⟨gk - 1, by omega⟩
          obtain ⟨z1, z2⟩ := HQ2.out i hlt
          have hx := str_one hlt
          have hy := str_one (a := U) (i := i) (by omega)
          have HS1 := Lib.hid (fun w => stands_one (bu W i) w (by omega))
          have HS2 := Lib.hid (fun w => stands_one (bu U i) w (by omega))
          generalize place (bu W i) = pc at *
          generalize place (bu U i) = pd at *
          subst z2
          go_wp2_with fail
          refine (HS1.out _).mono ?_
          rintro e w5 ⟨b1, o1, k1, rfl, hl1, hc1, hb5⟩
          have HC1 := Lib.hid hc1
          have HB5 := Lib.hid (HB.out.trans (hb5.mono HB.out.size)); clear hb5 hc1
          go_wp2_with fail
          refine (HS2.out _).mono ?_
          rintro e w6 ⟨b2, o2, k2, rfl, hl2, hc2, hb6⟩
          have hc1 : w6.cell? ⟨b1, o1, none⟩ = some (.int .i64 (pc : Int)) := (hb6.cell (p := ⟨b1, o1, none⟩) hl1).trans HC1.out
          have HB6 := Lib.hid (HB5.out.trans (hb6.mono HB5.out.size)); clear hb6
          have hw : IntKind.i64.wrap ((pc : Int) + 2) = (pc : Int) + 2 := IntWalk.i64_in _ (by omega)
          have hcast : ((pc + 2 : Nat) : Int) = (pc : Int) + 2 := by omega
          rw [hcast] at hc2
          clear hcast
          go_wp2_with fail
          go_quiet (fail)
          clear hw
          go_wp2_with fail
          go_roundg f
          case measure => omega
          case rel => exact ⟨i + 1, by omega, by simp, below_drewN HB6.out _⟩
        · clear hle
          have HM := Lib.hid (HL.out ⟨n1, by omega⟩)
          have HW3 := Lib.hid (fun w hp => write_ok (n + 1000) w (by omega) hp)
          rw [HM.out] at HW3
          go_wp2_with fail
          refine (HW3.out _ (HPG.out.below HB.out (Nat.le_refl _))).mono ?_
          rintro e w5 ⟨rfl, hb5⟩
          have HB5 := Lib.hid (HB.out.trans (hb5.mono HB.out.size)); clear hb5
          go_wp2_with fail
          go_ret
          exact ⟨ret_bool (by simp), HB5.out⟩
    · by_cases h2999 : n ≤ 2999
      · have HM := Lib.hid (HL.out ⟨n1, h2999⟩)
        have HW3 := Lib.hid (fun w hp => write_ok (n + 1000) w (by omega) hp)
        rw [HM.out] at HW3
        have hd1 : decide (n ≤ 399) = false := decide_eq_false h399
        go_wp2_with fail
        refine (HW3.out _ (HPG.out.below HB2.out (Nat.le_refl _))).mono ?_
        rintro e w5 ⟨rfl, hb5⟩
        have HB5 := Lib.hid (HB2.out.trans (hb5.mono HB2.out.size)); clear hb5
        go_wp2_with fail
        go_ret
        exact ⟨ret_bool (by simp), HB5.out⟩
      · have hd1 : decide (n ≤ 399) = false := decide_eq_false h399
        have hd2 : decide (n ≤ 2999) = false := decide_eq_false h2999
        go_wp2_with fail
        go_ret
        exact ⟨ret_bool (by simp), HB2.out⟩
  · refine (write_no n w1 hn).mono ?_
    rintro e w2 ⟨rfl, rfl⟩
    clear hn
    go_wp2_with fail
    go_ret
    exact ⟨ret_bool (by simp), HB1.out⟩
end Go.Proofs.YtjdjmglfngjcnaaDoor
