/- The walk over yard.Read. Condition: the variable yard.kinds reads as the program's text lays it. -/
import Derived.Test.YtehecbfgdpaemaaDoorYardW
import Derived.Laws.IdiomStrings
import Derived.Deep.RegionLaw
import Derived.Deep.AppendLies
import Derived.Deep.DrawnRows
namespace Go.Proofs.YtehecbfgdpaemaaDoor
open Go.RowKit YardM IntWalk
attribute [local go_sem] byte_at str_app
attribute [local go_sem ↓] Go.wp_at_zero Go.wp_at_succ
theorem info_int : (Tryd.prog.info? 3).map (fun i => (i.zero, i.size, i.bytes)) = some (some (.int .i64 0), 1, 8) := by kernel_rfl
/-- '[]byte(s)'. -/
theorem conv_bytes (l : List UInt8) (w : World) : ∃ cap w', (convert 9 43 (S l)).run Tryd.prog w = .ok (.slice (some ⟨w.heap.size, 0, none⟩) l.length cap) w' ∧ Below w.heap.size w w' ∧ w'.heap.size = w.heap.size + 1 ∧
    ∀ j, j < l.length → w'.cell? ⟨w.heap.size, j, none⟩ = some (.int .u8 ((bu l j).toNat : Int)) := by
  refine ⟨_, _, run_bytes_of_string w 9 43 5 ⟨l.toArray⟩ Tryd.underlying9 Tryd.underlying43 Tryd.underlying5, ?_, ?_, ?_⟩
  · exact (show Below w.heap.size w w.drew from below_drewN (Below.refl _ _) 1).alloc (Nat.le_refl _) _
  · show (w.heap.push _).size = _; simp
  · intro j hj
    have := World.cell?_alloc_mark w.drew (bytesRow ⟨l.toArray⟩ (grownCap w (ByteArray.mk l.toArray).size 0 5)) 5 ((bytesRow ⟨l.toArray⟩ (grownCap w (ByteArray.mk l.toArray).size 0 5)).size, (bytesRow ⟨l.toArray⟩ (grownCap w (ByteArray.mk l.toArray).size 0 5)).size + 1) j
    refine Eq.trans this ?_
    unfold bytesRow
    rw [Array.getElem?_append_left (by simpa using hj)]
    simp [bu_eq hj, hj]

/-- A number as a value. -/
def nv (x : Nat) : Value := .int .i64 (x : Int)
theorem own_some {w : World} {base e size n : Nat} {v : Value} {xs : List Value} (h : w.ownsRow base e size v n xs) (hn : 0 < n) : ∃ g c, v = .slice (some ⟨g, 0, none⟩) n c ∧ base ≤ g ∧ g < w.heap.size ∧ n ≤ c := by
  rcases h.2 with ⟨_, h0⟩ | ⟨g, cap, cur, hv, hb, hg, hc, _⟩
  · omega
  · exact ⟨g, cap, hv, hb, (Array.getElem?_eq_some_iff.1 hg).1, hc⟩
theorem own_set {w : World} {base e g n c : Nat} {xs : List Value} (h : w.ownsRow base e 1 (.slice (some ⟨g, 0, none⟩) n c) n xs) {j : Nat} (u : Value) : (w.setCell ⟨g, j, none⟩ u).ownsRow base e 1 (.slice (some ⟨g, 0, none⟩) n c) n (xs.set j u) := by
  refine ⟨by rw [List.length_set]; exact h.1, ?_⟩
  rcases h.2 with ⟨h0, _⟩ | ⟨g', cap, cur, hv, hb, hg, hc, hm, hsz, ht⟩
  · cases h0
  · cases hv
    refine .inr ⟨g, c, cur.setIfInBounds j u, rfl, hb, ?_, hc, hm, by simpa using hsz, ?_⟩
    · simp [World.setCell, Array.getElem?_modify, hg]
    · rw [Array.toList_setIfInBounds, ← ht, List.take_set, Nat.mul_one]
theorem rstp_short {st : List Nat} {c : UInt8} (hd : dig c = false) (h : st.length < 2) : rstp st c = none := by
  unfold rstp
  rw [if_neg (by rw [hd]; decide)]
  match st, h with
  | [], _ => rfl
  | [_], _ => rfl
/-- What Read gives. -/
def readV (o : Option Nat) : Value := match o with
  | some x => .tuple #[.int .i64 (x : Int), .nilIface]
  | none => .tuple #[.int .i64 0, .iface 53 (.int .i64 2)]
def readO (o : Option (List Nat)) : Option Nat := match o with
  | some [x] => some x
  | _ => none
set_option maxRecDepth 100000 in
set_option maxHeartbeats 2000000 in
theorem read_ok (l : List UInt8) (w : World) (hl : l.length ≤ 24) (hk : KG w) :
    Calls Tryd.prog 20 #[S l] w fun e w' => e = .returned (readV (readM l)) ∧ Below w.heap.size w w' := by
  obtain ⟨ii, hi, hi0, hi1, hi2⟩ := info_parts info_int
  obtain ⟨R, hR⟩ : ∃ R, rrun [] l = R := ⟨_, rfl⟩
  have hRM : readM l = readO R := by rw [← hR]; rfl
  rw [hRM]
  have HR := Lib.hid hR
  clear hR hRM
  have HK := Lib.hid hk; clear hk
  have hB1 : Below w.heap.size w (w.alloc (.cells #[S l] 9)) := (Below.refl _ _).alloc (Nat.le_refl _) _
  obtain ⟨cap, w2, hcv, hB2, hz2, hc2⟩ := conv_bytes l (w.alloc (.cells #[S l] 9))
  have hB : Below w.heap.size w w2 := hB1.trans (hB2.mono (by simp))
  have HB := Lib.hid hB; have HC := Lib.hid hc2; have HZ := Lib.hid hz2
  clear hB1 hB2 hB hz2 hc2
  rw [show (w.alloc (.cells #[S l] 9)).heap.size = w.heap.size + 1 by simp] at hcv HC HZ
  go_enter Tryd.func20, Tryd.ntmps20
  go_wp2_with fail
  refine (long1_no 24 l _ _ _ ?_ (by omega)).mono ?_
  · simp [World.cell?_alloc_new]
  rintro e w' ⟨rfl, rfl⟩
  go_wp2_with fail
  clear hcv
  generalize hg : w.heap.size + 1 = g at *
  have HK2 := Lib.hid (HK.out.below HB.out (Nat.le_refl _))
  go_loopg [5, 19] l.length (fun f lv iv wr => ∃ (i : Nat) (st : List Nat), i + f = l.length ∧ iv = .int .i64 (i : Int) ∧ wr.ownsRow (g + 1) 3 1 lv (st.reverse.map nv).length (st.reverse.map nv) ∧ st.length ≤ i ∧ (∀ x ∈ st, x < 9973) ∧ rrun st (l.drop i) = R ∧ Below (g + 1) w2 wr)
  case atStart => exact ⟨0, [], by omega, rfl, World.ownsRow_nil _ _ _ _, by simp, by simp, HR.out, Below.refl _ _⟩
  case round =>
    obtain ⟨i, st, hif, rfl, hown, hsl, hst, hrr, hBr⟩ := hrel
    have HOWN := Lib.hid hown; clear hown
    have HBR := Lib.hid hBr
    have HST := Lib.hid hst; clear hst
    by_cases hlt : i < l.length
    · obtain ⟨f, rfl⟩ : ∃ f, gk = f + 1 := ⟨gk - 1, by omega⟩
      have hcell := (hBr.cell (p := ⟨g, i, none⟩) (Nat.lt_succ_self _)).trans (HC.out i hlt)
      obtain ⟨kb, kes, kcl, hk1, hk2, hk3⟩ := HK2.out.below hBr (by have := HZ.out; omega)
      rw [drop_bu hlt] at hrr
      generalize bu l i = c at *
      have hlk := hk3 wr hk2 c true
      rw [if_pos rfl] at hlk
      unfold kindV at hlk
      have HK3 := Lib.hid hk3
      clear hk3 hk2
      obtain ⟨e94, he94⟩ : ∃ b, b = (c == 94) := ⟨_, rfl⟩
      rw [← he94] at hlk
      clear he94
      have hgr : g < wr.heap.size := cell_lt hcell
      cases hd : dig c
      · by_cases hr0 : rk c = 0
        · have e1 := do_none hr0
          rw [e1, hr0] at hlk
          clear e1
          have hn : rrun st (c :: l.drop (i + 1)) = none := by
            have : rstp st c = none := by
              unfold rstp
              rw [if_neg (by rw [hd]; decide)]
              match st with
              | [] => rfl
              | [_] => rfl
              | b :: a :: st' => simp [hr0]
            simp only [rrun, this]
          rw [hn] at hrr
          subst hrr
          clear hn hr0
          have HD := Lib.hid hd; clear hd
          go_wp2_with fail
          refine (digit_any c _).mono ?_
          rintro e w' ⟨rfl, rfl⟩
          rw [HD.out]
          go_wp2_with fail
          go_ret2
          exact ⟨rfl, HB.out.trans ((HBR.out.alloc (by have := HZ.out; omega) _).mono (by omega))⟩
        · obtain ⟨F, e1, hEn, hF⟩ := do_of (c := c) (by omega)
          have hrk : (rk c != 0) = true := by simp [hr0]
          rw [e1, hrk] at hlk
          generalize hrc : (rk c : Int) = rc at hlk
          clear hrc
          have HF := Lib.hid hF; have HEN := Lib.hid hEn; clear hF hEn e1 hrk
          by_cases h2 : 2 ≤ st.length
          · obtain ⟨b, a, st', rfl⟩ : ∃ b a st', st = b :: a :: st' := by
              match st, h2 with
              | b :: a :: st', _ => exact ⟨b, a, st', rfl⟩
            have hop := rstp_op (c := c) (by omega) a b st'
            have hrs : rrun (b :: a :: st') (c :: l.drop (i + 1)) = rrun (doM c a b :: st') (l.drop (i + 1)) := by simp only [rrun, hop]
            rw [hrs] at hrr
            have HRR := Lib.hid hrr
            have hlt2 := doM_lt c a b
            have ha := HST.out a (by simp)
            have hb := HST.out b (by simp)
            have HD := Lib.hid hd
            have hX : ((b :: a :: st').reverse.map nv) = st'.reverse.map nv ++ [nv a] ++ [nv b] := by simp
            have hXn : (st'.reverse.map nv).length = st'.length := by simp
            have HXN := Lib.hid hXn
            rw [hX] at HOWN
            have hown := HOWN.out
            rw [List.length_append, List.length_append, hXn] at hown
            simp only [List.length_cons, List.length_nil, Nat.zero_add] at hown
            obtain ⟨gg, cp, e5, hgg1, hgg2, hcp⟩ := own_some hown (by omega)
            subst e5
            generalize hN : st'.length = n at *
            have ca : wr.cell? ⟨gg, n, none⟩ = some (nv a) := by
              have := hown.cells (g := gg) rfl n (nv a) (by rw [List.append_assoc, List.getElem?_append_right (by omega), hXn, Nat.sub_self]; rfl)
              rwa [Addr.add_lit, Nat.zero_add] at this
            have cb : wr.cell? ⟨gg, n + 1, none⟩ = some (nv b) := by
              have := hown.cells (g := gg) rfl (n + 1) (nv b) (by rw [List.getElem?_append_right (by simp [hN])]; simp [hN])
              rwa [Addr.add_lit, Nat.zero_add] at this
            have hp1 := ownsRow_pop (n := n + 1) (xs := st'.reverse.map nv ++ [nv a]) (last := [nv b]) (size := 1) (by simp [hN]) hown
            have HP := Lib.hid hp1
            unfold nv at ca cb
            clear hop hrs hrr hr0 hd hX hown HOWN hp1 h2
            have hn24 : n + 2 ≤ 24 := by simp at hsl; omega
            go_wp2_with fail
            refine (digit_any c _).mono ?_
            rintro e w' ⟨rfl, rfl⟩
            rw [HD.out]
            go_wp2_with fail
            have f1 : IntKind.i64.wrap ((n : Int) + 1 + 1 - 2) = (n : Int) := by rw [i64_in _ (by omega)]; omega
            have f2 : IntKind.i64.wrap ((n : Int) + 1 + 1 - 1) = ((n + 1 : Nat) : Int) := by rw [i64_in _ (by omega)]; omega
            have f3 : (0 : Int) ≤ (n : Int) := by omega
            have f4 : n ≤ cp := by omega
            have f5 : ((n : Int)).toNat = n := by omega
            have f6 : (n : Int) < (n : Int) + 1 + 1 := by omega
            have f10 : IntKind.i64.wrap ((n : Int) + 1) = (n : Int) + 1 := i64_in _ (by omega)
            have f7 : (n : Int) + 1 < (n : Int) + 1 + 1 := by omega
            have f8 : (0 : Int) ≤ (n : Int) + 1 := by omega
            have f9 : ((n : Int) + 1).toNat = n + 1 := by omega
            have d2 : (wr.alloc (.cells #[.int .i64 rc, .bool e94, .func (.func F) #[] #[]] 49)).cell? ⟨wr.heap.size, 2, none⟩ = some (.func (.func F) #[] #[]) := by simp [World.cell?_alloc_new]
            have ca' := (World.cell?_alloc_lt wr (.cells #[.int .i64 rc, .bool e94, .func (.func F) #[] #[]] 49) ⟨gg, n, none⟩ hgg2).trans ca
            have cb' := (World.cell?_alloc_lt wr (.cells #[.int .i64 rc, .bool e94, .func (.func F) #[] #[]] 49) ⟨gg, n + 1, none⟩ hgg2).trans cb
            have HP3 := Lib.hid (HP.out.alloc (.cells #[.int .i64 rc, .bool e94, .func (.func F) #[] #[]] 49))
            have HB3 := Lib.hid (HBR.out.alloc (by omega) (.cells #[.int .i64 rc, .bool e94, .func (.func F) #[] #[]] 49))
            have HZ3 := Lib.hid (show wr.heap.size < (wr.alloc (.cells #[.int .i64 rc, .bool e94, .func (.func F) #[] #[]] 49)).heap.size by simp)
            have hgg3 : gg < (wr.alloc (.cells #[.int .i64 rc, .bool e94, .func (.func F) #[] #[]] 49)).heap.size := by have := HZ3.out; omega
            generalize wr.alloc (.cells #[.int .i64 rc, .bool e94, .func (.func F) #[] #[]] 49) = w3 at *
            clear ca cb HP HBR hBr hcell hlk hk1
            have hen := HEN.out
            have hcN := (World.cell?_alloc_lt w3 (.cells #[.int .i64 ((doM c a b : Nat) : Int)] 3) ⟨gg, n, none⟩ hgg3).trans ca'
            have hfN := (HP3.out.alloc (.cells #[.int .i64 ((doM c a b : Nat) : Int)] 3)).frozenAt n
            have hOW := Lib.hid ((own_set HP3.out (j := n) (.int .i64 ((doM c a b : Nat) : Int))).alloc (.cells #[.int .i64 ((doM c a b : Nat) : Int)] 3))
            have hBW := Lib.hid ((HB3.out.setCell (p := ⟨gg, n, none⟩) hgg1 (.int .i64 ((doM c a b : Nat) : Int))).alloc (by have := HZ3.out; rw [show (w3.setCell ⟨gg, n, none⟩ (.int .i64 ((doM c a b : Nat) : Int))).heap.size = w3.heap.size from by simp [World.setCell]]; omega) (.cells #[.int .i64 ((doM c a b : Nat) : Int)] 3))
            have hroom : n + 1 ≤ cp := by omega
            clear HP3 HB3 HZ3
            go_region_with (refine (HF.out a b _ ha hb).mono ?_; rintro e w' ⟨rfl, rfl⟩)
            clear hcN hfN hen ca' cb' d2 f1 f2 f3 f4 f5 f6 f7 f8 f9 f10
            all_goals
              go_wp2_with fail
              go_roundg f
              case measure => omega
              case rel =>
                refine ⟨i + 1, doM c a b :: st', by omega, by simp, ?_, by simp at hsl ⊢; omega, ?_, HRR.out, below_drewN hBW.out 1⟩
                · have e6 : ((doM c a b :: st').reverse.map nv) = (st'.reverse.map nv ++ [nv a]).set n (.int .i64 ((doM c a b : Nat) : Int)) := by
                    rw [List.set_append_right _ _ (by omega), hXn, Nat.sub_self]
                    simp [nv]
                  have e7 : ((doM c a b :: st').reverse.map nv).length = n + 1 := by simp [hN]
                  rw [e7, e6]
                  exact hOW.out
                · intro x hx
                  rcases List.mem_cons.1 hx with rfl | hx
                  · exact hlt2
                  · exact HST.out x (by simp [hx])
          · have hn : rrun st (c :: l.drop (i + 1)) = none := by
              have : rstp st c = none := rstp_short hd (by omega)
              simp only [rrun, this]
            rw [hn] at hrr
            subst hrr
            clear hn hr0
            have HD := Lib.hid hd; clear hd
            have hsl2 : (st.reverse.map nv).length < 2 := by simp; omega
            generalize hLL : (st.reverse.map nv).length = n at *
            obtain ⟨A1, c1, rfl, hc1⟩ := own_shape HOWN.out
            clear hLL
            have hn1 : ¬ (1 < n) := by omega
            go_wp2_with fail
            refine (digit_any c _).mono ?_
            rintro e w' ⟨rfl, rfl⟩
            rw [HD.out]
            go_wp2_with fail
            go_ret2
            exact ⟨rfl, HB.out.trans ((HBR.out.alloc (by have := HZ.out; omega) _).mono (by omega))⟩
      · have hrs : rrun st (c :: l.drop (i + 1)) = rrun ((c.toNat - 48) :: st) (l.drop (i + 1)) := by
          have : rstp st c = some ((c.toNat - 48) :: st) := by unfold rstp; rw [if_pos hd]
          simp only [rrun, this]
        rw [hrs] at hrr
        have hcn : 48 ≤ c.toNat ∧ c.toNat ≤ 57 := of_decide_eq_true hd
        have hr0 : rk c = 0 := by
          rcases kinds c with ⟨_, _, _, h⟩ | ⟨rfl, h, _⟩ | ⟨rfl, h, _⟩ | ⟨h, _⟩ | ⟨h, _⟩
          · exact h
          all_goals (rw [h] at hd; cases hd)
        have e1 := do_none hr0
        rw [e1, hr0] at hlk
        have HD := Lib.hid hd
        have HRR := Lib.hid hrr
        clear e1 hrs hr0 hd hrr
        have hw1 : IntKind.u8.wrap ((c.toNat : Int) - 48) = (c.toNat : Int) - 48 := by rw [show IntKind.u8.wrap ((c.toNat : Int) - 48) = ((c.toNat : Int) - 48) % 256 by simp [IntKind.wrap, IntKind.bits, IntKind.signed]]; omega
        go_wp2_with fail
        refine (digit_any c _).mono ?_
        rintro e w' ⟨rfl, rfl⟩
        rw [HD.out]
        go_wp2_with (at_builtin; refine wpList_append1 rfl (.tmp 33) (.tmp 37) _ rfl 3 ii _ Tryd.underlying58 hi hi0 hi1 (by omega) rfl (g + 1) _ _ (.int .i64 ((c.toNat : Int) - 48)) rfl rfl ?hx (HOWN.out.alloc _) ?hl1 ?hl2 ?_)
        case hx => show Value.slice (some ⟨wr.heap.size + 1, 0, none⟩) 1 1 = _; simp
        case hl1 => simp; omega
        case hl2 => simp; omega
        intro v' w' hown' hB'
        go_wp2_with fail
        go_roundg f
        case measure => omega
        case rel =>
          have hnv : (Value.int .i64 ((c.toNat : Int) - 48)) = nv (c.toNat - 48) := by unfold nv; congr 1; omega
          refine ⟨i + 1, (c.toNat - 48) :: st, by omega, by simp, ?_, by simp; omega, ?_, HRR.out, (HBR.out.alloc (by omega) _).trans hB'⟩
          · rw [hnv] at hown'
            simpa using hown'
          · intro x hx
            rcases List.mem_cons.1 hx with rfl | hx
            · omega
            · exact HST.out x hx
    · obtain rfl : i = l.length := by omega
      rw [List.drop_length] at hrr
      have hrr' : some st = R := hrr
      subst hrr'
      clear hrr HR
      by_cases h1 : st.length = 1
      · obtain ⟨x, rfl⟩ : ∃ x, st = [x] := List.length_eq_one_iff.1 h1
        have hown := HOWN.out
        simp only [List.reverse_cons, List.reverse_nil, List.nil_append, List.map_cons, List.map_nil, List.length_cons, List.length_nil, Nat.zero_add] at hown
        obtain ⟨gg, cp, rfl, hgg1, hgg2, hcp⟩ := own_some hown (by omega)
        have ca : wr.cell? ⟨gg, 0, none⟩ = some (.int .i64 (x : Int)) := by
          have := hown.cells (g := gg) rfl 0 (nv x) rfl
          rwa [Addr.add_lit, Nat.zero_add] at this
        clear hown HOWN h1
        go_wp2_with fail
        go_ret2
        exact ⟨rfl, HB.out.trans (HBR.out.mono (by omega))⟩
      · have hne : readO (some st) = none := by
          unfold readO
          match st, h1 with
          | [], _ => rfl
          | _ :: _ :: _, _ => rfl
        have HNE := Lib.hid hne
        have hn1 : (st.reverse.map nv).length ≠ 1 := by simpa using h1
        generalize (st.reverse.map nv).length = n at *
        obtain ⟨A1, c1, rfl, hc1⟩ := own_shape HOWN.out
        have hn2 : ((n : Int) == 1) = false := by simpa using (show (n : Int) ≠ 1 by omega)
        have hn3 : ((n : Int) != 1) = true := by simpa using (show (n : Int) ≠ 1 by omega)
        clear hne HOWN
        go_wp2_with fail
        go_ret2
        exact ⟨by rw [HNE.out]; rfl, HB.out.trans (HBR.out.mono (by omega))⟩
end Go.Proofs.YtehecbfgdpaemaaDoor
