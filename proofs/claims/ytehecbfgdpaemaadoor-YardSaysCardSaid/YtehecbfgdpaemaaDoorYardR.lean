/- The walks over the document's rank, power and Read of sums with their signs behind. No condition. -/
import Derived.Test.YtehecbfgdpaemaaDoorYardE
namespace Go.Proofs.YtehecbfgdpaemaaDoor
open Go.RowKit YardM IntWalk
attribute [local go_sem] byte_at str_app

theorem qn_ne {c : UInt8} {d : UInt8} {k : Int} (hd : (d.toNat : Int) = k) (h : c ≠ d) : ((c.toNat : Int) == k) = false := by
  subst hd
  have h1 : c.toNat ≠ d.toNat := fun e => h (UInt8.toNat_inj.1 e)
  have h2 : (c.toNat : Int) ≠ (d.toNat : Int) := by omega
  simpa using h2
theorem qn_eq {c : UInt8} {d : UInt8} {k : Int} (hd : (d.toNat : Int) = k) (h : c = d) : ((c.toNat : Int) == k) = true := by
  subst hd; subst h; simp
set_option maxHeartbeats 400000 in
theorem rank_any (c : UInt8) (w : World) :
    Calls Tryd.prog 28 #[.int .u8 (c.toNat : Int)] w fun e w' => e = .returned (.int .i64 (rk c : Int)) ∧ w = w' := by
  by_cases h1 : c = 43
  · have q1 := qn_eq (k := 43) (d := 43) (by decide) h1
    have HR := Lib.hid (show rk c = 1 by rw [h1]; decide)
    clear h1
    go_enter Tryd.func28, Tryd.ntmps28
    go_wp2_with fail
    go_ret
    exact ⟨by rw [HR.out]; rfl, rfl⟩
  have q1 := qn_ne (k := 43) (d := 43) (by decide) h1
  by_cases h2 : c = 45
  · have q2 := qn_eq (k := 45) (d := 45) (by decide) h2
    have HR := Lib.hid (show rk c = 1 by rw [h2]; decide)
    clear h1 h2
    go_enter Tryd.func28, Tryd.ntmps28
    go_wp2_with fail
    go_ret
    exact ⟨by rw [HR.out]; rfl, rfl⟩
  have q2 := qn_ne (k := 45) (d := 45) (by decide) h2
  by_cases h3 : c = 42
  · have q3 := qn_eq (k := 42) (d := 42) (by decide) h3
    have HR := Lib.hid (show rk c = 2 by rw [h3]; decide)
    clear h1 h2 h3
    go_enter Tryd.func28, Tryd.ntmps28
    go_wp2_with fail
    go_ret
    exact ⟨by rw [HR.out]; rfl, rfl⟩
  have q3 := qn_ne (k := 42) (d := 42) (by decide) h3
  by_cases h4 : c = 94
  · have q4 := qn_eq (k := 94) (d := 94) (by decide) h4
    have HR := Lib.hid (show rk c = 3 by rw [h4]; decide)
    clear h1 h2 h3 h4
    go_enter Tryd.func28, Tryd.ntmps28
    go_wp2_with fail
    go_ret
    exact ⟨by rw [HR.out]; rfl, rfl⟩
  have q4 := qn_ne (k := 94) (d := 94) (by decide) h4
  have HR := Lib.hid (show rk c = 0 by unfold rk; simp [h1, h2, h3, h4])
  clear h1 h2 h3 h4
  go_enter Tryd.func28, Tryd.ntmps28
  go_wp2_with fail
  go_ret
  exact ⟨by rw [HR.out]; rfl, rfl⟩

theorem power_step (a n : Nat) : (if n % 2 = 1 then (a * a % 9973) ^ (n / 2) % 9973 * a % 9973 else (a * a % 9973) ^ (n / 2) % 9973) = a ^ n % 9973 := by
  have h := pw_step 1 a n
  simp only [Nat.one_mul] at h
  rw [← h]
  split
  · rw [Nat.mod_mul_mod, Nat.mod_mul_mod, Nat.mul_comm]
  · rw [Nat.one_mul]
set_option maxHeartbeats 1000000 in
theorem power_any : ∀ (f n a : Nat) (w : World), n < 2 ^ f → a < 9973 → n < 9973 →
    Calls Tryd.prog 29 #[.int .i64 (a : Int), .int .i64 (n : Int)] w fun e w' => e = .returned (.int .i64 ((a ^ n % 9973 : Nat) : Int)) ∧ w = w' := by
  intro f
  induction f with
  | zero =>
    intro n a w h ha hn
    obtain rfl : n = 0 := by omega
    go_enter Tryd.func29, Tryd.ntmps29
    go_wp2_with fail
    go_ret
    exact ⟨by simp, rfl⟩
  | succ f ih =>
    intro n a w h ha hn
    by_cases h0 : n = 0
    · subst h0
      clear ih
      go_enter Tryd.func29, Tryd.ntmps29
      go_wp2_with fail
      go_ret
      exact ⟨by simp, rfl⟩
    · have e0 : ((n : Int) == 0) = false := by rw [beq_eq_false_iff_ne]; omega
      have hps := power_step a n
      have hlt : n / 2 < 2 ^ f := by rw [Nat.pow_succ] at h; omega
      have IH := Lib.hid (ih (n / 2) (a * a % 9973) w hlt (Nat.mod_lt _ (by decide)) (by omega))
      have g0 : (0 : Int) ≤ (a : Int) * (a : Int) := by rw [← Int.natCast_mul]; omega
      have g1 : (a : Int) * (a : Int) ≤ 9973 * 9973 := by rw [← Int.natCast_mul]; have : a * a ≤ 9973 * 9973 := Nat.mul_le_mul (by omega) (by omega); omega
      have hy : (a * a % 9973) ^ (n / 2) % 9973 < 9973 := Nat.mod_lt _ (by decide)
      have hcast : (((a * a % 9973 : Nat)) : Int) = (a : Int) * (a : Int) % 9973 := by simp
      have hcast2 : ((n / 2 : Nat) : Int) = (n : Int) / 2 := by simp
      rw [hcast, hcast2] at IH
      have HPS := Lib.hid hps
      clear ih hps hlt hcast hcast2 h h0
      generalize (a * a % 9973) ^ (n / 2) % 9973 = y at *
      have g2 : (0 : Int) ≤ (y : Int) * (a : Int) := by rw [← Int.natCast_mul]; omega
      have g3 : (y : Int) * (a : Int) ≤ 9973 * 9973 := by rw [← Int.natCast_mul]; have : y * a ≤ 9973 * 9973 := Nat.mul_le_mul (by omega) (by omega); omega
      rcases Nat.mod_two_eq_zero_or_one n with hm | hm
      all_goals
        have hm' : (n : Int) % 2 = ((n % 2 : Nat) : Int) := by omega
        rw [hm] at hm' HPS
        go_enter Tryd.func29, Tryd.ntmps29
        go_wp2_with fail
        refine IH.out.mono ?_
        rintro e w' ⟨rfl, rfl⟩
        go_wp2_with fail
        go_ret
        exact ⟨by rw [← HPS.out]; simp, rfl⟩

/-- What the document's Read gives. -/
def rrV (o : Option Nat) : Value := match o with
  | some x => .tuple #[.int .i64 (x : Int), .bool true]
  | none => .tuple #[.int .i64 0, .bool false]
set_option maxRecDepth 100000 in
set_option maxHeartbeats 4000000 in
theorem rread_any (l : List UInt8) (w : World) (hl : l.length ≤ 24) :
    Calls Tryd.prog 18 #[S l] w fun e w' => e = .returned (rrV (readM l)) ∧ Below w.heap.size w w' := by
  obtain ⟨ii, hi, hi0, hi1, hi2⟩ := info_parts info_int
  obtain ⟨R, hR⟩ : ∃ R, rrun [] l = R := ⟨_, rfl⟩
  have hRM : readM l = readO R := by rw [← hR]; rfl
  rw [hRM]
  have HR := Lib.hid hR
  clear hR hRM
  go_enter Tryd.func18, Tryd.ntmps18
  go_wp2_with fail
  go_loopg [4, 5] l.length (fun f lv iv wr => ∃ (i : Nat) (st : List Nat), i + f = l.length ∧ iv = .int .i64 (i : Int) ∧ wr.ownsRow w.heap.size 3 1 lv (st.reverse.map nv).length (st.reverse.map nv) ∧ st.length ≤ i ∧ (∀ x ∈ st, x < 9973) ∧ rrun st (l.drop i) = R ∧ Below w.heap.size w wr)
  case atStart => exact ⟨0, [], by omega, rfl, World.ownsRow_nil _ _ _ _, by simp, by simp, HR.out, Below.refl _ _⟩
  case round =>
    obtain ⟨i, st, hif, rfl, hown, hsl, hst, hrr, hBr⟩ := hrel
    have HOWN := Lib.hid hown; clear hown
    have HBR := Lib.hid hBr
    have HWZ := Lib.hid hBr.size
    have HST := Lib.hid hst; clear hst hBr
    by_cases hlt : i < l.length
    · obtain ⟨f, rfl⟩ : ∃ f, gk = f + 1 := ⟨gk - 1, by omega⟩
      rw [drop_bu hlt] at hrr
      cases hd : dig (bu l i)
      · by_cases hr0 : rk (bu l i) = 0
        · have hn : rrun st (bu l i :: l.drop (i + 1)) = none := by
            have : rstp st (bu l i) = none := by
              unfold rstp
              rw [if_neg (by rw [hd]; decide)]
              match st with
              | [] => rfl
              | [_] => rfl
              | b :: a :: st' => simp [hr0]
            simp only [rrun, this]
          rw [hn] at hrr
          subst hrr
          have HR0 := Lib.hid hr0
          clear hn hr0
          obtain ⟨A1, c1, rfl, hc1⟩ := own_shape HOWN.out
          rcases dig_no hd with h48 | ⟨h57, h48⟩
          all_goals
            clear hd
            go_wp2_with fail
            refine (rank_any _ _).mono ?_
            rw [HR0.out]
            rintro e w' ⟨rfl, rfl⟩
            go_wp2_with fail
            go_ret2
            exact ⟨rfl, HBR.out⟩
        · by_cases h2 : st.length < 2
          · have hn : rrun st (bu l i :: l.drop (i + 1)) = none := by
              have : rstp st (bu l i) = none := rstp_short hd h2
              simp only [rrun, this]
            rw [hn] at hrr
            subst hrr
            have hsl2 : (st.reverse.map nv).length < 2 := by simp; omega
            generalize hLL : (st.reverse.map nv).length = n at *
            obtain ⟨A1, c1, rfl, hc1⟩ := own_shape HOWN.out
            clear hLL hn
            have hrk : ((rk (bu l i) : Int) == 0) = false := by rw [beq_eq_false_iff_ne]; omega
            rcases dig_no hd with h48 | ⟨h57, h48⟩
            all_goals
              clear hd hr0
              go_wp2_with fail
              refine (rank_any _ _).mono ?_
              rintro e w' ⟨rfl, rfl⟩
              go_wp2_with fail
              go_ret2
              exact ⟨rfl, HBR.out⟩
          · obtain ⟨b, a, st', rfl⟩ : ∃ b a st', st = b :: a :: st' := by
              match st, h2 with
              | [], h2 => exact absurd (by decide) h2
              | [_], h2 => exact absurd (by simp) h2
              | b :: a :: st', _ => exact ⟨b, a, st', rfl⟩
            have hop := rstp_op (c := bu l i) (by omega) a b st'
            have hrs : rrun (b :: a :: st') (bu l i :: l.drop (i + 1)) = rrun (doM (bu l i) a b :: st') (l.drop (i + 1)) := by simp only [rrun, hop]
            rw [hrs] at hrr
            have HRR := Lib.hid hrr
            have hlt2 := doM_lt (bu l i) a b
            have ha := HST.out a (by simp)
            have hb := HST.out b (by simp)
            have hX : ((b :: a :: st').reverse.map nv) = st'.reverse.map nv ++ [nv a] ++ [nv b] := by simp
            have hXn : (st'.reverse.map nv).length = st'.length := by simp
            rw [hX] at HOWN
            have hown := HOWN.out
            rw [List.length_append, List.length_append, hXn] at hown
            simp only [List.length_cons, List.length_nil, Nat.zero_add] at hown
            obtain ⟨gg, cp, e5, hgg1, hgg2, hcp⟩ := own_some hown (by omega)
            subst e5
            have hrk : ((rk (bu l i) : Int) == 0) = false := by rw [beq_eq_false_iff_ne]; omega
            generalize hN : st'.length = n at *
            have ca : wr.cell? ⟨gg, n, none⟩ = some (nv a) := by
              have := hown.cells (g := gg) rfl n (nv a) (by rw [List.append_assoc, List.getElem?_append_right (by omega), hXn, Nat.sub_self]; rfl)
              rwa [Addr.add_lit, Nat.zero_add] at this
            have cb : wr.cell? ⟨gg, n + 1, none⟩ = some (nv b) := by
              have := hown.cells (g := gg) rfl (n + 1) (nv b) (by rw [List.getElem?_append_right (by simp [hN])]; simp [hN])
              rwa [Addr.add_lit, Nat.zero_add] at this
            have hp1 := ownsRow_pop (n := n + 1) (xs := st'.reverse.map nv ++ [nv a]) (last := [nv b]) (size := 1) (by simp [hN]) hown
            have hp2 := ownsRow_pop (n := n) (xs := st'.reverse.map nv) (last := [nv a]) (size := 1) (by simp [hN]) hp1
            have HP : Hid (wr.ownsRow w.heap.size 3 1 (.slice (some ⟨gg, 0, none⟩) n cp) (st'.reverse.map nv).length (st'.reverse.map nv)) := Lib.hid (by rw [hXn]; exact hp2)
            unfold nv at ca cb
            have hn24 : n + 2 ≤ 24 := by simp at hsl; omega
            have HSL := Lib.hid hsl
            have HXN := Lib.hid hXn
            clear hop hrs hrr hX hown HOWN hp1 hp2 h2 hsl hXn
            have hnn : ¬ ((n : Int) + 1 + 1 < 2) := by omega
            have hml : a * b ≤ 9973 * 9973 := Nat.mul_le_mul (by omega) (by omega)
            have hmm : (a : Int) * (b : Int) = ((a * b : Nat) : Int) := by rw [Int.natCast_mul]
            obtain ⟨y, hy⟩ : ∃ y, y = doM (bu l i) a b := ⟨_, rfl⟩
            rw [← hy] at HRR hlt2
            have hop4 : bu l i = 43 ∨ bu l i = 45 ∨ bu l i = 42 ∨ bu l i = 94 := by
              by_cases k1 : bu l i = 43
              · exact .inl k1
              by_cases k2 : bu l i = 45
              · exact .inr (.inl k2)
              by_cases k3 : bu l i = 42
              · exact .inr (.inr (.inl k3))
              by_cases k4 : bu l i = 94
              · exact .inr (.inr (.inr k4))
              · exact absurd (by unfold rk; simp [k1, k2, k3, k4]) hr0
            clear hr0
            rcases dig_no hd with h48 | ⟨h57, h48⟩
            · clear hd
              rcases hop4 with k | k | k | k
              · have q1 := qn_eq (k := 43) (d := 43) (by decide) k
                have q2 := qn_ne (c := bu l i) (k := 45) (d := 45) (by decide) (by rw [k]; decide)
                have q3 := qn_ne (c := bu l i) (k := 42) (d := 42) (by decide) (by rw [k]; decide)
                have q4 := qn_ne (c := bu l i) (k := 94) (d := 94) (by decide) (by rw [k]; decide)
                have hy2 : ((y : Nat) : Int) = ((a : Int) + (b : Int)) % 9973 := by rw [hy, k]; show (((a + b) % 9973 : Nat) : Int) = _; omega
                clear k hy hmm
                go_wp2_with fail
                refine (rank_any _ _).mono ?_
                rintro e w' ⟨rfl, rfl⟩
                go_wp2_with (at_builtin; refine wpList_append1 rfl (.tmp 90) (.tmp 92) _ rfl 3 ii _ Tryd.underlying58 hi hi0 hi1 (by omega) rfl w.heap.size _ _ (.int .i64 (((a : Int) + (b : Int)) % 9973)) rfl rfl rfl HP.out ?hl1 ?hl2 ?_)
                case hl1 => rw [HXN.out]; omega
                case hl2 => exact HWZ.out
                intro v' w' hown' hB'
                have HB5 := Lib.hid (HBR.out.trans hB')
                have HOW5 : Hid (w'.ownsRow w.heap.size 3 1 v' ((y :: st').reverse.map nv).length ((y :: st').reverse.map nv)) := Lib.hid (by
                  rw [← hy2] at hown'
                  simpa [nv, hN] using hown')
                clear hown' hB'
                go_wp2_with fail
                go_roundg f
                case measure => omega
                case rel =>
                  have hsl := HSL.out
                  refine ⟨i + 1, y :: st', by omega, by simp, HOW5.out, by simp at hsl ⊢; omega, ?_, HRR.out, HB5.out⟩
                  intro x hx
                  rcases List.mem_cons.1 hx with rfl | hx
                  · exact hlt2
                  · exact HST.out x (by simp [hx])
              · have q1 := qn_ne (c := bu l i) (k := 43) (d := 43) (by decide) (by rw [k]; decide)
                have q2 := qn_eq (k := 45) (d := 45) (by decide) k
                have q3 := qn_ne (c := bu l i) (k := 42) (d := 42) (by decide) (by rw [k]; decide)
                have q4 := qn_ne (c := bu l i) (k := 94) (d := 94) (by decide) (by rw [k]; decide)
                have hy2 : ((y : Nat) : Int) = ((a : Int) + 9973 - (b : Int)) % 9973 := by rw [hy, k]; show (((a + 9973 - b) % 9973 : Nat) : Int) = _; omega
                have h0 : (0 : Int) ≤ (a : Int) + 9973 - (b : Int) := by omega
                clear k hy hmm
                go_wp2_with fail
                refine (rank_any _ _).mono ?_
                rintro e w' ⟨rfl, rfl⟩
                go_wp2_with (at_builtin; refine wpList_append1 rfl (.tmp 90) (.tmp 92) _ rfl 3 ii _ Tryd.underlying58 hi hi0 hi1 (by omega) rfl w.heap.size _ _ (.int .i64 (((a : Int) + 9973 - (b : Int)) % 9973)) rfl rfl rfl HP.out ?hl1 ?hl2 ?_)
                case hl1 => rw [HXN.out]; omega
                case hl2 => exact HWZ.out
                intro v' w' hown' hB'
                have HB5 := Lib.hid (HBR.out.trans hB')
                have HOW5 : Hid (w'.ownsRow w.heap.size 3 1 v' ((y :: st').reverse.map nv).length ((y :: st').reverse.map nv)) := Lib.hid (by
                  rw [← hy2] at hown'
                  simpa [nv, hN] using hown')
                clear hown' hB'
                go_wp2_with fail
                go_roundg f
                case measure => omega
                case rel =>
                  have hsl := HSL.out
                  refine ⟨i + 1, y :: st', by omega, by simp, HOW5.out, by simp at hsl ⊢; omega, ?_, HRR.out, HB5.out⟩
                  intro x hx
                  rcases List.mem_cons.1 hx with rfl | hx
                  · exact hlt2
                  · exact HST.out x (by simp [hx])
              · have q1 := qn_ne (c := bu l i) (k := 43) (d := 43) (by decide) (by rw [k]; decide)
                have q2 := qn_ne (c := bu l i) (k := 45) (d := 45) (by decide) (by rw [k]; decide)
                have q3 := qn_eq (k := 42) (d := 42) (by decide) k
                have q4 := qn_ne (c := bu l i) (k := 94) (d := 94) (by decide) (by rw [k]; decide)
                have hy2 : ((y : Nat) : Int) = ((a * b : Nat) : Int) % 9973 := by rw [hy, k]; show ((a * b % 9973 : Nat) : Int) = _; omega
                generalize a * b = m at *
                have e1 : IntKind.i64.wrap ((a : Int) * (b : Int)) = (m : Int) := by rw [hmm]; exact i64_in _ (by omega)
                clear k hy
                go_wp2_with fail
                refine (rank_any _ _).mono ?_
                rintro e w' ⟨rfl, rfl⟩
                go_wp2_with (at_builtin; refine wpList_append1 rfl (.tmp 90) (.tmp 92) _ rfl 3 ii _ Tryd.underlying58 hi hi0 hi1 (by omega) rfl w.heap.size _ _ (.int .i64 ((m : Int) % 9973)) rfl rfl rfl HP.out ?hl1 ?hl2 ?_)
                case hl1 => rw [HXN.out]; omega
                case hl2 => exact HWZ.out
                intro v' w' hown' hB'
                have HB5 := Lib.hid (HBR.out.trans hB')
                have HOW5 : Hid (w'.ownsRow w.heap.size 3 1 v' ((y :: st').reverse.map nv).length ((y :: st').reverse.map nv)) := Lib.hid (by
                  rw [← hy2] at hown'
                  simpa [nv, hN] using hown')
                clear hown' hB'
                go_wp2_with fail
                go_roundg f
                case measure => omega
                case rel =>
                  have hsl := HSL.out
                  refine ⟨i + 1, y :: st', by omega, by simp, HOW5.out, by simp at hsl ⊢; omega, ?_, HRR.out, HB5.out⟩
                  intro x hx
                  rcases List.mem_cons.1 hx with rfl | hx
                  · exact hlt2
                  · exact HST.out x (by simp [hx])
              · have q1 := qn_ne (c := bu l i) (k := 43) (d := 43) (by decide) (by rw [k]; decide)
                have q2 := qn_ne (c := bu l i) (k := 45) (d := 45) (by decide) (by rw [k]; decide)
                have q3 := qn_ne (c := bu l i) (k := 42) (d := 42) (by decide) (by rw [k]; decide)
                exact absurd h48 (by rw [k]; decide)
            · clear hd
              rcases hop4 with k | k | k | k
              · exact absurd h57 (by rw [k]; decide)
              · exact absurd h57 (by rw [k]; decide)
              · exact absurd h57 (by rw [k]; decide)
              · have q1 := qn_ne (c := bu l i) (k := 43) (d := 43) (by decide) (by rw [k]; decide)
                have q2 := qn_ne (c := bu l i) (k := 45) (d := 45) (by decide) (by rw [k]; decide)
                have q3 := qn_ne (c := bu l i) (k := 42) (d := 42) (by decide) (by rw [k]; decide)
                have q4 := qn_eq (k := 94) (d := 94) (by decide) k
                have hy2 : a ^ b % 9973 = y := by rw [hy, k]; rfl
                have HY2 := Lib.hid hy2
                clear k hy hmm hy2
                go_wp2_with fail
                refine (rank_any _ _).mono ?_
                rintro e w' ⟨rfl, rfl⟩
                go_wp2_with fail
                refine (power_any 14 b a _ (by omega) ha hb).mono ?_
                rw [HY2.out]
                rintro e w' ⟨rfl, rfl⟩
                go_wp2_with (at_builtin; refine wpList_append1 rfl (.tmp 90) (.tmp 92) _ rfl 3 ii _ Tryd.underlying58 hi hi0 hi1 (by omega) rfl w.heap.size _ _ (.int .i64 ((y : Int))) rfl rfl rfl HP.out ?hl1 ?hl2 ?_)
                case hl1 => rw [HXN.out]; omega
                case hl2 => exact HWZ.out
                intro v' w' hown' hB'
                have HB5 := Lib.hid (HBR.out.trans hB')
                have HOW5 : Hid (w'.ownsRow w.heap.size 3 1 v' ((y :: st').reverse.map nv).length ((y :: st').reverse.map nv)) := Lib.hid (by
                  skip
                  simpa [nv, hN] using hown')
                clear hown' hB'
                go_wp2_with fail
                go_roundg f
                case measure => omega
                case rel =>
                  have hsl := HSL.out
                  refine ⟨i + 1, y :: st', by omega, by simp, HOW5.out, by simp at hsl ⊢; omega, ?_, HRR.out, HB5.out⟩
                  intro x hx
                  rcases List.mem_cons.1 hx with rfl | hx
                  · exact hlt2
                  · exact HST.out x (by simp [hx])
      · have hrs : rrun st (bu l i :: l.drop (i + 1)) = rrun (((bu l i).toNat - 48) :: st) (l.drop (i + 1)) := by
          have : rstp st (bu l i) = some (((bu l i).toNat - 48) :: st) := by unfold rstp; rw [if_pos hd]
          simp only [rrun, this]
        rw [hrs] at hrr
        have HRR := Lib.hid hrr
        obtain ⟨h48, h57⟩ := dig_yes hd
        clear hrs hd hrr
        go_wp2_with (at_builtin; refine wpList_append1 rfl (.tmp 26) (.tmp 32) _ rfl 3 ii _ Tryd.underlying58 hi hi0 hi1 (by omega) rfl w.heap.size _ _ (.int .i64 (((bu l i).toNat : Int) - 48)) rfl rfl rfl HOWN.out ?hl1 ?hl2 ?_)
        case hl1 => simp; omega
        case hl2 => exact HWZ.out
        intro v' w' hown' hB'
        have HB5 := Lib.hid (HBR.out.trans hB')
        have HOW5 : Hid (w'.ownsRow w.heap.size 3 1 v' ((((bu l i).toNat - 48) :: st).reverse.map nv).length ((((bu l i).toNat - 48) :: st).reverse.map nv)) := Lib.hid (by
          have hnv : (Value.int .i64 (((bu l i).toNat : Int) - 48)) = nv ((bu l i).toNat - 48) := by unfold nv; congr 1; omega
          rw [hnv] at hown'
          simpa using hown')
        clear hown' hB'
        go_wp2_with fail
        go_roundg f
        case measure => omega
        case rel =>
          refine ⟨i + 1, ((bu l i).toNat - 48) :: st, by omega, by simp, HOW5.out, by simp; omega, ?_, HRR.out, HB5.out⟩
          intro x hx
          rcases List.mem_cons.1 hx with rfl | hx
          · omega
          · exact HST.out x hx
    · obtain rfl : i = l.length := by omega
      rw [List.drop_length] at hrr
      have hrr' : some st = R := hrr
      subst hrr'
      clear hrr HR
      by_cases h1 : st.length = 1
      · obtain ⟨x, rfl⟩ : ∃ x, st = [x] := List.length_eq_one_iff.1 h1
        have hown := HOWN.out
        simp only [List.reverse_cons, List.reverse_nil, List.nil_append, List.map_cons, List.map_nil, List.length_cons, List.length_nil, Nat.zero_add] at hown
        obtain ⟨gg, cp, rfl, hgg1, hgg2, hcp⟩ := own_some hown (by omega)
        have ca : wr.cell? ⟨gg, 0, none⟩ = some (.int .i64 (x : Int)) := by
          have := hown.cells (g := gg) rfl 0 (nv x) rfl
          rwa [Addr.add_lit, Nat.zero_add] at this
        clear hown HOWN h1
        go_wp2_with fail
        go_ret2
        exact ⟨rfl, HBR.out⟩
      · have hne : readO (some st) = none := by
          unfold readO
          match st, h1 with
          | [], _ => rfl
          | _ :: _ :: _, _ => rfl
        have HNE := Lib.hid hne
        have hn1 : (st.reverse.map nv).length ≠ 1 := by simpa using h1
        generalize (st.reverse.map nv).length = n at *
        obtain ⟨A1, c1, rfl, hc1⟩ := own_shape HOWN.out
        have hn2 : ((n : Int) == 1) = false := by simpa using (show (n : Int) ≠ 1 by omega)
        have hn3 : ((n : Int) != 1) = true := by simpa using (show (n : Int) ≠ 1 by omega)
        clear hne HOWN
        go_wp2_with fail
        go_ret2
        exact ⟨by rw [HNE.out]; rfl, HBR.out⟩
end Go.Proofs.YtehecbfgdpaemaaDoor
