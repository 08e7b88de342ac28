/- The walk over the law GramMore. Condition: errors.errorType reads as the handle of the type error. -/
import Derived.Test.YtlbiklhndcamhaaDoorGramK
namespace Go.Proofs.YtlbiklhndcamhaaDoor
open Go.RowKit GramM IntWalk
attribute [local go_sem] byte_at str_app

/-- The cells of rules. -/
def rcells (L : List Ru) : List Value := L.flatMap fun r => [.int .u8 (r.nm.toNat : Int), S r.is]
theorem rcells_len (L : List Ru) : (rcells L).length = L.length * 2 := by
  induction L with
  | nil => rfl
  | cons r L ih =>
    have : rcells (r :: L) = [Value.int .u8 (r.nm.toNat : Int), S r.is] ++ rcells L := rfl
    rw [this, List.length_append, ih]
    simp only [List.length_cons, List.length_nil]
    omega
theorem rcells_app (L M : List Ru) : rcells (L ++ M) = rcells L ++ rcells M := by unfold rcells; rw [List.flatMap_append]
theorem rcells_at (L : List Ru) : ∀ j, j < L.length → (rcells L)[j * 2]? = some (.int .u8 ((ru L j).nm.toNat : Int)) ∧ (rcells L)[j * 2 + 1]? = some (S (ru L j).is) := by
  induction L with
  | nil => intro j hj; simp at hj
  | cons r L ih =>
    intro j hj
    have e : rcells (r :: L) = Value.int .u8 (r.nm.toNat : Int) :: S r.is :: rcells L := rfl
    cases j with
    | zero => rw [e]; exact ⟨rfl, rfl⟩
    | succ j =>
      have h := ih j (by simpa using hj)
      have e2 : ru (r :: L) (j + 1) = ru L j := rfl
      rw [e, e2, show (j + 1) * 2 = j * 2 + 1 + 1 by omega, show j * 2 + 1 + 1 + 1 = (j * 2 + 1) + 1 + 1 by omega]
      exact h
theorem Rules.of_own {w : World} {base e n c : Nat} {A : Option Addr} {L : List Ru} (h : w.ownsRow base e 2 (.slice A n c) n (rcells L)) : Rules w w.heap.size A n L := by
  have hl : L.length = n := by have := h.1; rw [rcells_len] at this; omega
  refine ⟨hl, fun hn => ?_⟩
  rcases h.2 with ⟨_, h0⟩ | ⟨g, cap, cur, hv, _, hg, _⟩
  · omega
  · have hA : A = some ⟨g, 0, none⟩ := by injection hv
    subst hA
    have hlt : g < w.heap.size := (Array.getElem?_eq_some_iff.1 hg).1
    refine ⟨g, 0, rfl, hlt, fun j hj => ?_⟩
    obtain ⟨h1, h2⟩ := rcells_at L j (by omega)
    have c1 := h.cells (g := g) rfl _ _ h1
    have c2 := h.cells (g := g) rfl _ _ h2
    rw [Addr.add_lit] at c1 c2
    exact ⟨by rw [Nat.zero_add] at c1; rw [Nat.zero_add]; exact c1, by rw [Nat.zero_add] at c2; rw [Nat.zero_add]; exact c2⟩
theorem ru_rev {L : List Ru} {j : Nat} (h : j < L.length) : ru L.reverse j = ru L (L.length - 1 - j) := by
  unfold ru
  rw [List.getElem?_reverse h]
theorem info_rule : (Tryd.prog.info? 35).map (fun i => (i.zero, i.size, i.bytes)) = some (some (.agg #[.int .u8 0, .string ByteArray.empty]), 2, 24) := by kernel_rfl

set_option maxRecDepth 100000 in
set_option maxHeartbeats 4000000 in
theorem gramMore_walk (L : List Ru) (r : Ru) (s : List UInt8) (w : World) (A : Option Addr) (m c : Nat) (hm : m ≤ 9223372036854775807) (hs9 : s.length ≤ 9223372036854775807) (hR : Rules w w.heap.size A m L) (hg : HG w) :
    Calls Tryd.prog 4 #[.slice A m c, .agg #[.int .u8 (r.nm.toNat : Int), S r.is], S s] w fun e w' => e = .returned (.bool true) ∧ Below w.heap.size w w' := by
  have hLm := hR.1
  have HR := Lib.hid hR; clear hR
  have HGH := Lib.hid hg; clear hg
  obtain ⟨ir, hi, hi0, hi1, hi2⟩ := info_parts info_rule
  go_enter Tryd.func4, Tryd.ntmps4
  go_wp2_with fail
  have hBx : Below w.heap.size w (w.alloc (.cells #[.int .u8 (r.nm.toNat : Int), S r.is] 35)) := (Below.refl _ _).alloc (Nat.le_refl _) _
  have hcx : ∀ wq, Below (w.heap.size + 1) (w.alloc (.cells #[.int .u8 (r.nm.toNat : Int), S r.is] 35)) wq → wq.cell? ⟨w.heap.size, 0, none⟩ = some (.int .u8 (r.nm.toNat : Int)) ∧ wq.cell? ⟨w.heap.size, 1, none⟩ = some (S r.is) := fun wq hb =>
    ⟨(hb.cell (p := ⟨w.heap.size, 0, none⟩) (Nat.lt_succ_self _)).trans (by simp), (hb.cell (p := ⟨w.heap.size, 1, none⟩) (Nat.lt_succ_self _)).trans (by simp)⟩
  have hsx : (w.alloc (.cells #[.int .u8 (r.nm.toNat : Int), S r.is] 35)).heap.size = w.heap.size + 1 := by simp
  have HBX := Lib.hid hBx; have HCX := Lib.hid hcx; have HSX := Lib.hid hsx
  clear hBx hcx hsx
  change Calls _ _ _ (w.alloc (.cells #[.int .u8 (r.nm.toNat : Int), S r.is] 35)) _
  generalize w.alloc (.cells #[.int .u8 (r.nm.toNat : Int), S r.is] 35) = wx at *
  refine (fact_any wx).mono ?_
  rintro e w1 ⟨rfl, hb1⟩
  rw [HSX.out] at hb1
  have HB1 := Lib.hid hb1; clear hb1
  have HRX := Lib.hid (fun wq (hb : Below (w.heap.size + 1) wx wq) => (show Rules wq wq.heap.size A m L from
    ⟨HR.out.1, fun hn => by
      have hbw : Below w.heap.size w wq := HBX.out.trans (hb.mono (Nat.le_succ _))
      obtain ⟨b, off, e, hbb, hc⟩ := (HR.out.below hbw).2 hn
      have hz := hb.size
      rw [HSX.out] at hz
      exact ⟨b, off, e, by omega, hc⟩⟩))
  go_wp2_with fail
  by_cases hc : chk L = 0
  rotate_left
  · have hE : errV (chk L) = .iface 40 (.int .i64 (chk L)) := by unfold errV; rw [if_neg hc]
    refine (Names_err L s w1 A m c hm (HRX.out w1 HB1.out) hc).mono ?_
    rw [hE]
    clear hE hc
    rintro e w2 ⟨rfl, hb2⟩
    have HB2 : Hid (Below w.heap.size w w2) := Lib.hid (HBX.out.trans ((HB1.out.trans (hb2.mono (by have := HB1.out.size; rw [HSX.out] at this; exact this))).mono (Nat.le_succ _))); clear hb2
    go_wp2_with fail
    go_ret
    exact ⟨rfl, HB2.out⟩
  by_cases hs : s.length ≤ 24
  rotate_left
  · refine (Names_long L s w1 A m c hm (HRX.out w1 HB1.out) hc (by omega)).mono ?_
    clear hc
    rintro e w2 ⟨rfl, hb2⟩
    have HB2 : Hid (Below w.heap.size w w2) := Lib.hid (HBX.out.trans ((HB1.out.trans (hb2.mono (by have := HB1.out.size; rw [HSX.out] at this; exact this))).mono (Nat.le_succ _))); clear hb2
    go_wp2_with fail
    go_ret
    exact ⟨rfl, HB2.out⟩
  have hm10 : m ≤ 10 := by
    unfold chk at hc
    split at hc
    · cases hc
    · omega
  refine (Names_ok L s w1 A m c hm (HRX.out w1 HB1.out) hc hs).mono ?_
  rintro e w2 ⟨rfl, hb2⟩
  have HB2 : Hid (Below (w.heap.size + 1) wx w2) := Lib.hid (HB1.out.trans (hb2.mono (by have := HB1.out.size; rw [HSX.out] at this; exact this))); clear hb2
  have HC := Lib.hid hc; clear hc
  have hrev := nms_rev L s
  have hcr := chk_rev L
  rw [HC.out] at hcr
  have hTl := nms_len L s
  have hmore := fun (L' : List Ru) (h : ∀ r ∈ L, r ∈ L') (i : Nat) (hi : i < (nms L s).length) => nms_more h s hi
  generalize nms L s = T at *
  have HREV := Lib.hid hrev; have HCR := Lib.hid hcr; have HMORE := Lib.hid hmore
  clear hrev hcr hmore
  go_wp2_with fail
  go_loopg [10, 11] m (fun k v iv wr => iv = .int .i64 ((k : Int) - 1) ∧ k ≤ m ∧ wr.ownsRow (w.heap.size + 1) 35 2 v (m - k) (rcells (L.reverse.take (m - k))) ∧ Below (w.heap.size + 1) wx wr)
  case atStart => exact ⟨rfl, Nat.le_refl _, by rw [Nat.sub_self]; exact World.ownsRow_nil _ _ _ _, HB2.out⟩
  case round =>
    obtain ⟨hiv, hkm, hown, hB⟩ := hrel
    have HOWN := Lib.hid hown
    obtain ⟨A1, c1, rfl, hc1⟩ := own_shape hown
    clear hown
    have HB := Lib.hid hB
    have hbz := hB.size
    rw [HSX.out] at hbz
    by_cases hk : 0 < gk
    · obtain ⟨k, rfl⟩ : ∃ k, gk = k + 1 := ⟨gk - 1, by omega⟩
      rw [show (((k + 1 : Nat) : Int) - 1) = (k : Int) by omega] at hiv
      subst hiv
      have hRX := HRX.out wr hB
      obtain ⟨bb, off, rfl, hbb, hcc⟩ := hRX.2 (by omega)
      obtain ⟨c2, c3⟩ := hcc k (by omega)
      clear hcc hB hRX
      have hru : ru L.reverse (m - (k + 1)) = ru L k := by
        rw [ru_rev (by omega)]
        congr 1; omega
      have htk : L.reverse.take (m - k) = L.reverse.take (m - (k + 1)) ++ [ru L k] := by
        rw [show m - k = (m - (k + 1)) + 1 by omega, take_succ_ru (by rw [List.length_reverse]; omega), hru]
      have HTK := Lib.hid htk
      clear hru htk
      generalize ru L k = q at *
      have hkm' : (k : Int) < (m : Int) := by omega
      go_wp2_with (at_builtin; refine wpList_append_own _ rfl _ _ 22 rfl (w.heap.size + 1) 35 ir (.agg #[.int .u8 0, .string ByteArray.empty]) 2 24 Tryd.underlying22 hi hi0 hi1 hi2 rfl (by decide) _ (m - (k + 1)) (rcells (L.reverse.take (m - (k + 1)))) rfl (HOWN.out.alloc _) ⟨wr.heap.size, 0, none⟩ 1 1 [.int .u8 (q.nm.toNat : Int), S q.is] rfl rfl ?c1 ?c2 ?c3 ?c4 ?c5 ?_)
      case c1 =>
        intro j u' hj
        match j, hj with
        | 0, hj => have : (Value.int .u8 (q.nm.toNat : Int)) = u' := by simpa using hj
                   subst this; simp [Addr.add, World.cell?_alloc_new]
        | 1, hj => have : S q.is = u' := by simpa using hj
                   subst this; simp [Addr.add, World.cell?_alloc_new]
      case c2 => intro u' hu'; simp at hu'; rcases hu' with rfl | rfl <;> rfl
      case c3 => simp only [maxLen]; omega
      case c4 => omega
      case c5 => simp; omega
      intro v' w' hown' hgrow _
      have hB' : Below (w.heap.size + 1) wx w' := (HB.out.alloc (by rw [HSX.out] at *; omega) _).grown hgrow (by simp; omega) (fun k' hk' => (HOWN.out.lt k' hk').1)
      have hown2 : w'.ownsRow (w.heap.size + 1) 35 2 v' (m - k) (rcells (L.reverse.take (m - k))) := by
        rw [HTK.out, rcells_app, show m - k = m - (k + 1) + 1 by omega]; exact hown'
      have HO2 := Lib.hid hown2; have HB2' := Lib.hid hB'
      clear hown' hown2 hB' hgrow c2 c3
      go_wp2_with fail
      go_roundg k
      case measure => omega
      case rel => exact ⟨rfl, by omega, HO2.out, HB2'.out⟩
    · obtain rfl : gk = 0 := by omega
      subst hiv
      have hown0 := HOWN.out
      rw [Nat.sub_zero, List.take_of_length_le (by rw [List.length_reverse]; omega)] at hown0
      have HOWN0 := Lib.hid hown0
      clear hown0 HOWN
      go_wp2_with fail
      refine (Names_ok L.reverse s wr A1 m c1 hm (Rules.of_own HOWN0.out) HCR.out hs).mono ?_
      rw [HREV.out]
      rintro e w3 ⟨rfl, hb3⟩
      have hbz3 := hb3.size
      have HOWN3 := Lib.hid (own_below HOWN0.out hb3 (Nat.le_refl _))
      have HB3 : Hid (Below (w.heap.size + 1) wx w3) := Lib.hid (HB.out.trans (hb3.mono (by omega)))
      obtain ⟨x1, x2⟩ := HCX.out w3 HB3.out
      clear hb3 HOWN0 HB hB
      go_wp2_with (at_builtin; refine wpList_append_own _ rfl _ _ 22 rfl (w.heap.size + 1) 35 ir (.agg #[.int .u8 0, .string ByteArray.empty]) 2 24 Tryd.underlying22 hi hi0 hi1 hi2 rfl (by decide) _ m (rcells L.reverse) rfl (HOWN3.out.alloc _) ⟨w3.heap.size, 0, none⟩ 1 1 [.int .u8 (r.nm.toNat : Int), S r.is] rfl rfl ?c1 ?c2 ?c3 ?c4 ?c5 ?_)
      case c1 =>
        intro j u' hj
        match j, hj with
        | 0, hj => have : (Value.int .u8 (r.nm.toNat : Int)) = u' := by simpa using hj
                   subst this; simp [Addr.add, World.cell?_alloc_new]
        | 1, hj => have : S r.is = u' := by simpa using hj
                   subst this; simp [Addr.add, World.cell?_alloc_new]
      case c2 => intro u' hu'; simp at hu'; rcases hu' with rfl | rfl <;> rfl
      case c3 => simp only [maxLen]; omega
      case c4 => omega
      case c5 => simp; omega
      intro v' w4 hown' hgrow _
      have hB' : Below (w.heap.size + 1) wx w4 := (HB3.out.alloc (by omega) _).grown hgrow (by simp; omega) (fun k' hk' => (HOWN3.out.lt k' hk').1)
      have hown2 : w4.ownsRow (w.heap.size + 1) 35 2 v' (m + 1) (rcells (L.reverse ++ [r])) := by
        rw [rcells_app]; exact hown'
      obtain ⟨A4, c4, rfl, _⟩ := own_shape hown2
      have HR4 := Lib.hid (Rules.of_own hown2)
      have HB4 := Lib.hid hB'
      have hbz4 : w.heap.size + 1 ≤ w4.heap.size := by have := hB'.size; rw [HSX.out] at this; exact this
      have HFIN : Hid (∀ wq, Below w4.heap.size w4 wq → Below w.heap.size w wq) := Lib.hid (fun wq hb => HBX.out.trans ((HB4.out.trans (hb.mono hbz4)).mono (Nat.le_succ _)))
      have HG4 : Hid (∀ wq, Below w4.heap.size w4 wq → HG wq) := Lib.hid (fun wq hb => HGH.out.below (HFIN.out wq hb) (Nat.le_refl _))
      clear hown' hown2 hB' hgrow x1 x2
      go_wp2_with fail
      rcases chk_more HC.out r with ⟨h4, h10⟩ | h2 | h0
      · refine (Names_err (L.reverse ++ [r]) s w4 A4 (m + 1) c4 (by omega) HR4.out (by rw [h4]; decide)).mono ?_
        rw [h4]
        rintro e w5 ⟨rfl, hb5⟩
        rw [show errV 4 = .iface 40 (.int .i64 4) from rfl]
        have hm10' : ((m : Int) == 10) = true := by simp; omega
        have HB5 := Lib.hid (HFIN.out w5 hb5)
        clear hb5 h4 h10
        go_wp2_with fail
        go_ret
        exact ⟨rfl, HB5.out⟩
      · refine (Names_err (L.reverse ++ [r]) s w4 A4 (m + 1) c4 (by omega) HR4.out (by rw [h2]; decide)).mono ?_
        rw [h2]
        rintro e w5 ⟨rfl, hb5⟩
        rw [show errV 2 = .iface 40 (.int .i64 2) from rfl]
        have HB5 := Lib.hid (HFIN.out w5 hb5)
        have HG5 := Lib.hid (HG4.out w5 hb5)
        clear hb5 h2
        by_cases hm1 : m = 10
        · have hm10' : ((m : Int) == 10) = true := by simp; omega
          clear hm1
          go_wp2_with fail
          go_ret
          exact ⟨rfl, HB5.out⟩
        · have hm10' : ((m : Int) == 10) = false := by simp; omega
          go_wp2_with fail
          refine (error_any 2 2 _ HG5.out).mono ?_
          rintro e w6 ⟨rfl, hb6⟩
          have HB6 := Lib.hid (HB5.out.trans (hb6.mono HB5.out.size)); clear hb6
          go_wp2_with fail
          go_ret
          exact ⟨ret_bool (by simp), HB6.out⟩
      · refine (Names_ok (L.reverse ++ [r]) s w4 A4 (m + 1) c4 (by omega) HR4.out h0 hs).mono ?_
        rintro e w5 ⟨rfl, hb5⟩
        have HB5 := Lib.hid (HFIN.out w5 hb5)
        have HM := Lib.hid (HMORE.out (L.reverse ++ [r]) (fun q hq => List.mem_append.2 (.inl (List.mem_reverse.2 hq))))
        have hZl := nms_len (L.reverse ++ [r]) s
        generalize nms (L.reverse ++ [r]) s = Z at *
        clear hb5 h0
        go_wp2_with fail
        go_loopg [14] T.length (fun f iv wq => ∃ i : Nat, i + f = T.length ∧ iv = .int .i64 (i : Int) ∧ Below w.heap.size w wq)
        case atStart => exact ⟨0, by omega, rfl, HB5.out⟩
        case round =>
          clear HB5
          obtain ⟨i, hif, rfl, hB5⟩ := hrel
          have HB5 := Lib.hid hB5; clear hB5
          by_cases hi2 : i < T.length
          · obtain ⟨f, rfl⟩ : ∃ f, gk = f + 1 := ⟨gk - 1, by omega⟩
            have hh := HM.out i hi2
            have hsm : (ByteArray.mk T.toArray).extract i (i + 1) = ByteArray.mk #[bu T i] := by
              rw [str_mid]
              have : (T.drop i).take (i + 1 - i) = [bu T i] := by rw [show i + 1 - i = 1 by omega, drop_bu hi2]; rfl
              rw [this]
            have HH := Lib.hid hh; clear hh
            go_wp2_with fail
            refine (stands_any Z (bu T i) wr (by omega)).mono ?_
            rintro e w6 ⟨⟨A6, n6, k6, rfl, hn6, hd6⟩, hb6⟩
            have HB6 := Lib.hid (HB5.out.trans (hb6.mono HB5.out.size)); clear hb6
            rw [HH.out] at hd6
            have hn0 : 0 < n6 := by simpa using hd6
            have hn1 : ((n6 : Int) == 0) = false := by simp; omega
            have hn2 : (n6 == 0) = false := by simp; omega
            clear hd6 hsm
            go_wp2_with fail
            go_roundg f
            case measure => omega
            case rel => exact ⟨i + 1, by omega, by simp, HB6.out⟩
          · obtain rfl : i = T.length := by omega
            go_wp2_with fail
            go_ret
            exact ⟨rfl, HB5.out⟩
end Go.Proofs.YtlbiklhndcamhaaDoor
