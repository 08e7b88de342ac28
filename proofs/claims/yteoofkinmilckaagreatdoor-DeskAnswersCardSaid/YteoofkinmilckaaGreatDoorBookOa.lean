/- The document's Number: its walk at any text; numbers at any text, plain. No condition. -/
import Derived.Test.YteoofkinmilckaaGreatDoorBookC
import Derived.Test.YteoofkinmilckaaGreatDoorBookU
namespace Go.Proofs.YteoofkinmilckaaGreatDoor
open Go.RowKit IntWalk
attribute [local go_sem] byte_at str_app
attribute [local go_sem ↓] Go.wp_at_zero Go.wp_at_succ

theorem parse_of : ∀ (l : List UInt8) (acc n : Nat), Lib.decFrom acc l = some n → n < 9223372036854775808 → acc ≤ n ∧ Lib.parseUint10 acc l = .ok n
  | [], acc, n, h, _ => by
    obtain rfl := Option.some.inj h
    exact ⟨Nat.le_refl _, rfl⟩
  | c :: r, acc, n, h, hn => by
    simp only [Lib.decFrom] at h
    cases hd : Lib.digitVal c with
    | none => rw [hd] at h; cases h
    | some d =>
      rw [hd] at h
      obtain ⟨h1, h2⟩ := parse_of r _ n h hn
      obtain ⟨g1, g2, g3⟩ := Lib.digitVal_eq hd
      refine ⟨by omega, ?_⟩
      simp only [Lib.parseUint10]
      rw [if_pos ⟨g1, g2⟩, if_neg (by omega), if_neg (by omega), ← g3]
      exact h2
theorem numO_big (n : Nat) (h : n ≤ 9223372036854775807) : numO (Lib.decDigits n) = some n := by
  have h0 := dec_ne n
  have hm := dd_mem n
  have hp := (parse_of _ 0 n (decFrom_dec n) (by omega)).2
  have ha : Lib.atoiAll (Lib.decDigits n) = .ok (n : Int) := by
    cases hl : Lib.decDigits n with
    | nil => exact absurd hl h0
    | cons b r =>
      rw [hl] at hm hp
      have hb := hm b (by simp)
      rw [Lib.atoiAll_plain _ _ (by omega) (by omega)]
      unfold Lib.parseMag
      rw [if_neg (by simp), hp]
      unfold Lib.signless
      simp only []
      rw [if_neg (by omega)]
  unfold numO
  rw [ha]
  simp only []
  rw [if_pos ⟨by omega, Lib.itoa_nonneg n⟩]
  simp
theorem dd_len19 (n : Nat) (h : n ≤ 9223372036854775807) : (Lib.decDigits n).length ≤ 19 := dd_len 18 n (by omega)
set_option maxRecDepth 100000 in
set_option maxHeartbeats 2000000 in
theorem digits_gen (n : Nat) : ∀ (w : World), n ≤ 9223372036854775807 → Calls Tryz.prog 63 #[.int .i64 (n : Int)] w fun e w' => e = .returned (S (Lib.decDigits n)) ∧ w = w' := by
  induction n using Nat.strongRecOn with
  | ind n ih =>
    intro w hn
    by_cases h : n < 10
    · exact digits_any n w (by omega)
    · have h' : ¬ (n : Int) < 10 := by omega
      have hq := Lib.hid (ih (n / 10) (by omega))
      have hr := Lib.hid (ih (n % 10) (by omega))
      obtain ⟨q, hq'⟩ : ∃ q, q = n / 10 := ⟨_, rfl⟩
      obtain ⟨r, hr'⟩ : ∃ r, r = n % 10 := ⟨_, rfl⟩
      have f5 : Int.tdiv (n : Int) 10 = (q : Int) := by rw [Int.tdiv_eq_ediv_of_nonneg (by omega)]; omega
      have f3 : Int.tmod (n : Int) 10 = (r : Int) := by rw [Int.tmod_eq_emod_of_nonneg (by omega)]; omega
      have f6 : (n : Int) % 10 = (r : Int) := by omega
      have f7 : (n : Int) / 10 = (q : Int) := by omega
      have f1 : IntKind.i64.wrap (q : Int) = (q : Int) := i64_in _ (by omega)
      have f2 : IntKind.i64.wrap (r : Int) = (r : Int) := i64_in _ (by omega)
      have hl1 := dd_len19 (n / 10) (by omega)
      have hl2 := dd_len19 (n % 10) (by omega)
      have hdd : Hid (Lib.decDigits n = Lib.decDigits (n / 10) ++ Lib.decDigits (n % 10)) := Lib.hid (by
        rw [Lib.decDigits, dif_neg h, Lib.decDigits_one (show n % 10 < 10 by omega)])
      rw [← hq'] at hq hdd hl1
      rw [← hr'] at hr hdd hl2
      have hq9 : q ≤ 9223372036854775807 := by omega
      have hr9 : r ≤ 9223372036854775807 := by omega
      clear ih hq' hr'
      generalize Lib.decDigits q = X at *
      generalize Lib.decDigits r = Y at *
      generalize hD : Lib.decDigits n = D at *
      clear hD
      go_enter Tryz.func63, Tryz.ntmps63
      go_wp2_with fail
      refine (hq.out _ hq9).mono ?_
      rintro e w' ⟨rfl, rfl⟩
      go_wp2_with fail
      refine (hr.out _ hr9).mono ?_
      rintro e w' ⟨rfl, rfl⟩
      go_wp2_with fail
      go_ret
      exact ⟨by rw [hdd.out]; rfl, rfl⟩

/-- What a row of digits spells, in the machine's numbers. -/
theorem wrap_step (V : Nat) (c : Int) : IntKind.i64.wrap (IntKind.i64.wrap (IntKind.i64.wrap (IntKind.i64.wrap (V : Int) * 10) + c) - 48) = IntKind.i64.wrap ((V : Int) * 10 + (c - 48)) := by
  simp only [IntKind.wrap_i64]
  omega
theorem numO_none_of {l : List UInt8} (h : ∀ n, n ≤ 9223372036854775807 → l ≠ Lib.decDigits n) : numO l = none := by
  cases hn : numO l with
  | none => rfl
  | some n => obtain ⟨h1, h2⟩ := numO_some hn; exact absurd h1 (h n h2)

set_option maxRecDepth 100000 in
set_option maxHeartbeats 2000000 in
theorem numberR_any (l : List UInt8) (w : World) (hl9 : l.length ≤ 100000) :
    Calls Tryz.prog 36 #[S l] w fun e w' => (∃ v, e = .returned (.tuple #[.int .i64 v, .bool (numO l).isSome]) ∧ ∀ n, numO l = some n → v = (n : Int)) ∧ w = w' := by
  by_cases h0 : l = []
  · subst h0
    have hN : numO [] = none := numO_none_of fun n _ e => dec_ne n e.symm
    have HN := Lib.hid hN
    go_enter Tryz.func36, Tryz.ntmps36
    go_wp2_with fail
    go_ret2
    exact ⟨⟨0, by rw [HN.out]; rfl, fun n h => by rw [HN.out] at h; cases h⟩, rfl⟩
  have hl0 : ¬ (l.length : Int) = 0 := by
    have := List.length_pos_iff.2 h0
    omega
  have hl0' : l.length ≠ 0 := by omega
  by_cases h19 : 19 < l.length
  · have hN : numO l = none := numO_none_of fun n hn e => by
      have := dd_len19 n hn
      rw [← e] at this
      omega
    have HN := Lib.hid hN
    have h19' : (19 : Int) < (l.length : Int) := by omega
    clear hN h0
    go_enter Tryz.func36, Tryz.ntmps36
    go_wp2_with fail
    go_ret2
    exact ⟨⟨0, by rw [HN.out]; rfl, fun n h => by rw [HN.out] at h; cases h⟩, rfl⟩
  have h19' : ¬ (19 : Int) < (l.length : Int) := by omega
  clear h0
  go_enter Tryz.func36, Tryz.ntmps36
  go_wp2_with fail
  go_loopg [4, 5] l.length (fun f nv iv wr => ∃ i V : Nat, i + f = l.length ∧ iv = .int .i64 (i : Int) ∧ nv = .int .i64 (IntKind.i64.wrap (V : Int)) ∧ Hid (Lib.decFrom 0 (l.take i) = some V) ∧ wr = w)
  case atStart => exact ⟨0, 0, by omega, rfl, rfl, Lib.hid rfl, rfl⟩
  case round =>
    obtain ⟨i, V, hif, rfl, rfl, HV, rfl⟩ := hrel
    by_cases hi : i < l.length
    · obtain ⟨f, rfl⟩ : ∃ f, gk = f + 1 := ⟨gk - 1, by omega⟩
      have hmem := bu_mem hi
      have hbad : (bu l i).toNat < 48 ∨ 57 < (bu l i).toNat → numO l = none := fun hb => numO_none_of fun n hn e => by
        have := dd_mem n (bu l i) (by rw [← e]; exact hmem)
        omega
      have hst : 48 ≤ (bu l i).toNat → (bu l i).toNat ≤ 57 → Lib.decFrom 0 (l.take (i + 1)) = some (V * 10 + ((bu l i).toNat - 48)) := fun g1 g2 =>
        Lib.decFrom_take l i 0 V (bu l i) _ HV.out (by unfold bu; rw [List.getElem?_eq_getElem hi]; rfl) (by unfold Lib.digitVal; rw [if_pos ⟨g1, g2⟩])
      have HST := Lib.hid hst
      have HBAD := Lib.hid hbad
      have f1 : IntKind.i64.wrap ((i : Int) + 1) = (i : Int) + 1 := i64_in _ (by omega)
      have hW := Lib.hid (wrap_step V ((bu l i).toNat : Int))
      have hbl := bu_lt l i
      clear hst hbad hmem
      have fc : IntKind.i64.wrap ((bu l i).toNat : Int) = ((bu l i).toNat : Int) := i64_in _ (by omega)
      by_cases g1 : ((bu l i).toNat : Int) < 48
      · have HN := Lib.hid (HBAD.out (.inl (by omega)))
        go_wp2_with fail
        go_ret2
        exact ⟨⟨0, by rw [HN.out]; rfl, fun n h => by rw [HN.out] at h; cases h⟩, rfl⟩
      · by_cases g2 : 57 < ((bu l i).toNat : Int)
        · have HN := Lib.hid (HBAD.out (.inr (by omega)))
          go_wp2_with fail
          go_ret2
          exact ⟨⟨0, by rw [HN.out]; rfl, fun n h => by rw [HN.out] at h; cases h⟩, rfl⟩
        · have HS2 := Lib.hid (HST.out (by omega) (by omega))
          have e1 : (((bu l i).toNat - 48 : Nat) : Int) = ((bu l i).toNat : Int) - 48 := by omega
          have HE1 := Lib.hid e1
          clear e1
          generalize hN : IntKind.i64.wrap (V : Int) = N at *
          have HN := Lib.hid hN
          clear hN
          go_wp2_with fail
          go_roundg f
          case measure => omega
          case rel =>
            refine ⟨i + 1, V * 10 + ((bu l i).toNat - 48), by omega, by simp, ?_, HS2, rfl⟩
            have := hW.out
            rw [Int.natCast_add, Int.natCast_mul, HE1.out]
            simp only [IntWalk.i64_left] at this ⊢
            exact congrArg (Value.int .i64) this
    · obtain rfl : i = l.length := by omega
      have hV := HV.out
      rw [List.take_length] at hV
      have hlt := Lib.decFrom_lt l 0 V hV
      have hV19 : V < 10000000000000000000 := by
        have h1 : 10 ^ l.length ≤ 10 ^ 19 := Nat.pow_le_pow_right (by decide) (by omega)
        have h2 : (0 + 1) * 10 ^ l.length = 10 ^ l.length := by rw [Nat.zero_add, Nat.one_mul]
        rw [h2] at hlt
        have h3 : (10 : Nat) ^ 19 = 10000000000000000000 := by decide
        omega
      have huniq : ∀ n, l = Lib.decDigits n → n = V := fun n e => by
        rw [e, decFrom_dec] at hV
        exact Option.some.inj hV
      have HU := Lib.hid huniq
      clear huniq hlt hV HV
      by_cases hbig : V ≤ 9223372036854775807
      · have f0 : IntKind.i64.wrap (V : Int) = (V : Int) := i64_in _ (by omega)
        have f1 : (0 : Int) ≤ (V : Int) := by omega
        have HD := Lib.hid (digits_gen V wr hbig)
        have HO : Hid (numO l = if Lib.decDigits V = l then some V else none) := Lib.hid (by
          by_cases e : Lib.decDigits V = l
          · rw [if_pos e, ← e]; exact numO_big V hbig
          · rw [if_neg e]
            exact numO_none_of fun n _ h => by have := HU.out n h; subst this; exact e h.symm)
        clear HU
        generalize Lib.decDigits V = D at *
        by_cases hc : D = l
        · subst hc
          have HO2 : Hid (numO D = some V) := Lib.hid (by rw [HO.out, if_pos rfl])
          clear HO
          rw [f0]
          go_wp2_with fail
          refine HD.out.mono ?_
          rintro e w' ⟨rfl, rfl⟩
          go_wp2_with fail
          go_ret2
          exact ⟨⟨V, by rw [HO2.out]; simp, fun n h => by rw [HO2.out] at h; obtain rfl := Option.some.inj h; rfl⟩, rfl⟩
        · have HO2 : Hid (numO l = none) := Lib.hid (by rw [HO.out, if_neg hc])
          have hne : (D == l) = false := by simpa using hc
          clear HO hc
          rw [f0]
          go_wp2_with fail
          refine HD.out.mono ?_
          rintro e w' ⟨rfl, rfl⟩
          go_wp2_with fail
          go_ret2
          exact ⟨⟨V, by rw [HO2.out]; simp, fun n h => by rw [HO2.out] at h; cases h⟩, rfl⟩
      · have HO : Hid (numO l = none) := Lib.hid (numO_none_of fun n hn h => by have := HU.out n h; omega)
        obtain ⟨N, hN⟩ : ∃ N, IntKind.i64.wrap (V : Int) = N := ⟨_, rfl⟩
        have hneg : ¬ 0 ≤ N := by
          rw [← hN]
          simp only [IntKind.wrap_i64]
          omega
        rw [hN]
        clear HU hN
        go_wp2_with fail
        go_ret2
        exact ⟨⟨N, by rw [HO.out]; rfl, fun n h => by rw [HO.out] at h; cases h⟩, rfl⟩
end Go.Proofs.YteoofkinmilckaaGreatDoor
