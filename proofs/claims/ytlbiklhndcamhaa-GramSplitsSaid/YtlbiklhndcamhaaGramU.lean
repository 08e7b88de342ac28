/- The walk over the law GramSplits. -/
import Derived.Test.YtlbiklhndcamhaaGramL
namespace Go.Proofs.Ytlbiklhndcamhaa
open Go.RowKit GramM IntWalk
attribute [local go_sem] byte_at str_app

theorem hasB_nms (L : List Ru) (s : List UInt8) (c : UInt8) : hasB (nms L s) c = (decide (65 ≤ c.toNat ∧ c.toNat ≤ 90) && der L c.toNat s) := by
  rw [Bool.eq_iff_iff]
  unfold hasB nms nmsTo
  simp only [List.any_eq_true, List.mem_map, List.mem_filter, List.mem_range, beq_iff_eq, Bool.and_eq_true, decide_eq_true_eq]
  constructor
  · rintro ⟨x, ⟨k, ⟨hk, hd⟩, rfl⟩, rfl⟩
    have e : (UInt8.ofNat (65 + k)).toNat = 65 + k := by simp; omega
    rw [e]
    exact ⟨by omega, hd⟩
  · rintro ⟨h, hd⟩
    refine ⟨c, ⟨c.toNat - 65, ⟨by omega, by rw [show 65 + (c.toNat - 65) = c.toNat by omega]; exact hd⟩, ?_⟩, rfl⟩
    rw [show 65 + (c.toNat - 65) = c.toNat by omega]
    simp
/-- What the law asks of a place, and of a rule. -/
def atK (L : List Ru) (s : List UInt8) (r : Ru) (k : Nat) : Bool := decide (1 ≤ k) && (hasB (nms L (s.take k)) (bu r.is 0) && hasB (nms L (s.drop k)) (bu r.is 1))
def cnd (L : List Ru) (s : List UInt8) (name : UInt8) (r : Ru) : Bool := r.nm == name && (if r.is.length = 1 then r.is == s else (List.range s.length).any (atK L s r))
theorem chk_ok {L : List Ru} (h : chk L = 0) : ∀ r ∈ L, okR r = true := by
  unfold chk at h
  split at h
  · cases h
  · split at h
    · rename_i h2; exact List.all_eq_true.1 h2
    · cases h
theorem splits_ {L : List Ru} (h : chk L = 0) (s : List UInt8) (name : UInt8) : hasB (nms L s) name = L.any (cnd L s name) := by
  rw [hasB_nms]
  by_cases hn : 65 ≤ name.toNat ∧ name.toNat ≤ 90
  · rw [decide_eq_true hn, Bool.true_and, der_eq]
    refine any_congr fun r hr => ?_
    have hok := chk_ok h r hr
    unfold cnd
    congr 1
    · rw [Bool.eq_iff_iff]; simp [UInt8.toNat_inj]
    · by_cases h1 : r.is.length = 1
      · simp [h1]
      · have h2 : r.is.length = 2 ∧ (65 ≤ (bu r.is 0).toNat ∧ (bu r.is 0).toNat ≤ 90) ∧ (65 ≤ (bu r.is 1).toNat ∧ (bu r.is 1).toNat ≤ 90) := by
          unfold okR at hok
          simp [h1] at hok
          omega
        rw [if_neg h1, h2.1]
        simp only [show (2 == 1) = false from rfl, show (2 == 2) = true from rfl, Bool.false_and, Bool.false_or, Bool.true_and]
        refine any_congr fun k _ => ?_
        unfold atK
        rw [hasB_nms, hasB_nms, decide_eq_true h2.2.1, decide_eq_true h2.2.2, Bool.true_and, Bool.true_and]
  · rw [decide_eq_false hn, Bool.false_and, eq_comm, List.any_eq_false]
    intro r hr
    have hok := chk_ok h r hr
    unfold cnd
    have : (r.nm == name) = false := by
      rw [beq_eq_false_iff_ne]
      rintro rfl
      apply hn
      unfold okR at hok
      simp at hok
      exact hok.1
    rw [this]; simp
theorem Rules.grow {w w' : World} {n : Nat} {A : Option Addr} {L : List Ru} (h : Rules w w.heap.size A n L) (hb : Below w.heap.size w w') : Rules w' w'.heap.size A n L :=
  ⟨h.1, fun hn => by
    obtain ⟨b, off, e, hbb, hc⟩ := (h.below hb).2 hn
    exact ⟨b, off, e, Nat.lt_of_lt_of_le hbb hb.size, hc⟩⟩
theorem bu8_eq (a b : UInt8) (h : a = b) : ((a.toNat : Int) == (b.toNat : Int)) = true ∧ (a.toNat == b.toNat) = true ∧ ((a.toNat : Int) != (b.toNat : Int)) = false ∧ (a.toNat != b.toNat) = false := by
  subst h; simp
theorem bu8_ne (a b : UInt8) (h : a ≠ b) : ((a.toNat : Int) == (b.toNat : Int)) = false ∧ (a.toNat == b.toNat) = false ∧ ((a.toNat : Int) != (b.toNat : Int)) = true ∧ (a.toNat != b.toNat) = true := by
  have h1 : a.toNat ≠ b.toNat := fun e => h (UInt8.toNat_inj.1 e)
  have h2 : (a.toNat : Int) ≠ (b.toNat : Int) := fun e => h1 (by exact_mod_cast e)
  simp [h1, h2]

set_option maxRecDepth 100000 in
set_option maxHeartbeats 4000000 in
theorem gramSplits_walk (L : List Ru) (s : List UInt8) (name : UInt8) (w : World) (A : Option Addr) (m c : Nat) (hm : m ≤ 9223372036854775807) (hs9 : s.length ≤ 9223372036854775807) (hR : Rules w w.heap.size A m L) :
    Calls Try.prog 3 #[.slice A m c, S s, .int .u8 (name.toNat : Int)] w fun e w' => e = .returned (.bool true) ∧ Below w.heap.size w w' := by
  have hLm := hR.1
  have HR := Lib.hid hR; clear hR
  go_enter Try.func3, Try.ntmps3
  go_wp2_with fail
  refine (fact_any w).mono ?_
  rintro e w1 ⟨rfl, hb1⟩
  have HB1 := Lib.hid hb1; clear hb1
  go_wp2_with fail
  by_cases hc : chk L = 0
  rotate_left
  · have hE : errV (chk L) = .iface 43 (.int .i64 (chk L)) := by unfold errV; rw [if_neg hc]
    refine (Names_err L s w1 A m c hm (HR.out.grow HB1.out) hc).mono ?_
    rw [hE]
    clear hE hc
    rintro e w2 ⟨rfl, hb2⟩
    have HB2 := Lib.hid (HB1.out.trans (hb2.mono HB1.out.size)); clear hb2
    go_wp2_with fail
    go_ret
    exact ⟨rfl, HB2.out⟩
  by_cases hs : s.length ≤ 24
  rotate_left
  · refine (Names_long L s w1 A m c hm (HR.out.grow HB1.out) hc (by omega)).mono ?_
    clear hc
    rintro e w2 ⟨rfl, hb2⟩
    have HB2 := Lib.hid (HB1.out.trans (hb2.mono HB1.out.size)); clear hb2
    go_wp2_with fail
    go_ret
    exact ⟨rfl, HB2.out⟩
  have HN := Lib.hid (fun (x : List UInt8) (wr : World) (hx : x.length ≤ 24) (hb : Below w.heap.size w wr) => Names_ok L x wr A m c hm (HR.out.grow hb) hc hx)
  refine (HN.out s w1 hs HB1.out).mono ?_
  rintro e w2 ⟨rfl, hb2⟩
  have HB2 := Lib.hid (HB1.out.trans (hb2.mono HB1.out.size)); clear hb2
  have hsp := splits_ hc s name
  have HC := Lib.hid hc; clear hc
  have hTl := nms_len L s
  generalize nms L s = T at *
  have HSP := Lib.hid hsp; clear hsp
  go_wp2_with fail
  go_loopg [10, 11] T.length (fun f bv iv wr => ∃ i : Nat, ∃ b : Bool, i + f = T.length ∧ iv = .int .i64 (i : Int) ∧ bv = .bool b ∧ b = hasB (T.take i) name ∧ wr = w2)
  case atStart => exact ⟨0, false, by omega, rfl, rfl, rfl, rfl⟩
  case round =>
    obtain ⟨i, b, hif, rfl, rfl, hb, rfl⟩ := hrel
    by_cases hi : i < T.length
    · obtain ⟨f, rfl⟩ : ∃ f, gk = f + 1 := ⟨gk - 1, by omega⟩
      have hst := hasB_take hi name
      rw [← hb] at hst
      have HST := Lib.hid hst
      clear hb hst
      cases b
      · by_cases he : bu T i = name
        · obtain ⟨q1, q2, q3, q4⟩ := bu8_eq _ _ he
          go_wp2_with fail
          go_roundg f
          case measure => omega
          case rel => exact ⟨i + 1, true, by omega, by simp, rfl, by rw [HST.out, he]; simp, rfl⟩
        · obtain ⟨q1, q2, q3, q4⟩ := bu8_ne _ _ he
          go_wp2_with fail
          go_roundg f
          case measure => omega
          case rel => exact ⟨i + 1, false, by omega, by simp, rfl, by rw [HST.out, beq_eq_false_iff_ne.2 he]; rfl, rfl⟩
      · go_wp2_with fail
        go_roundg f
        case measure => omega
        case rel => exact ⟨i + 1, true, by omega, by simp, rfl, by rw [HST.out]; rfl, rfl⟩
    · obtain rfl : i = T.length := by omega
      rw [List.take_length] at hb
      rw [HSP.out] at hb
      have HIS := Lib.hid hb
      have HW2 := HB2
      clear hb hif hi HSP hTl
      go_wp2_with fail
      go_loopg [12, 13] m (fun f cv jv wq => ∃ j : Nat, ∃ b : Bool, j + f = m ∧ jv = .int .i64 (j : Int) ∧ cv = .bool b ∧ b = (L.take j).any (cnd L s name) ∧ Below w.heap.size w wq)
      case atStart => exact ⟨0, false, by omega, rfl, rfl, rfl, HB2.out⟩
      case round =>
        clear HB2 HW2
        obtain ⟨j, b1, hjf, rfl, rfl, hb1, hB⟩ := hrel
        by_cases hj : j < m
        · obtain ⟨f', rfl⟩ : ∃ f, gk = f + 1 := ⟨gk - 1, by omega⟩
          obtain ⟨bb, off, rfl, hbb, hcc⟩ := (HR.out.below hB).2 (by omega)
          obtain ⟨c1, c2⟩ := hcc j hj
          have HCC := Lib.hid (fun wq (hb : Below w.heap.size wr wq) => (hb.cell (p := ⟨bb, off + j * 2 + 1, none⟩) hbb).trans c2)
          have HCW : Hid (∀ wq, Below w.heap.size w wq → wq.cell? ⟨bb, off + j * 2 + 1, none⟩ = some (S (ru L j).is)) := Lib.hid (fun wq hb => by
            obtain ⟨b', o', e', _, h'⟩ := (HR.out.below hb).2 (by omega)
            cases e'
            exact (h' j hj).2)
          clear HCC
          have hok := chk_ok HC.out (ru L j) (ru_mem (by omega))
          have hst : (L.take (j + 1)).any (cnd L s name) = (b1 || cnd L s name (ru L j)) := by
            rw [take_succ_ru (by omega), List.any_append, ← hb1]; simp
          have HST := Lib.hid hst
          have HB := Lib.hid hB
          clear hst hb1 hcc hB
          generalize ru L j = r at *
          by_cases hnm : r.nm = name
          rotate_left
          · obtain ⟨q1, q2, q3, q4⟩ := bu8_ne _ _ hnm
            have HST2 : Hid ((L.take (j + 1)).any (cnd L s name) = b1) := Lib.hid (by rw [HST.out]; unfold cnd; rw [beq_eq_false_iff_ne.2 hnm]; simp)
            clear hnm
            go_wp2_with fail
            go_roundg f'
            case measure => omega
            case rel => exact ⟨j + 1, b1, by omega, by simp, rfl, HST2.out.symm, HB.out⟩
          obtain ⟨q1, q2, q3, q4⟩ := bu8_eq _ _ hnm
          by_cases hl1 : r.is.length = 1
          · have HST2 : Hid ((L.take (j + 1)).any (cnd L s name) = (b1 || r.is == s)) := Lib.hid (by rw [HST.out]; unfold cnd; rw [hnm, if_pos hl1]; simp)
            have e1 : ((r.is.length : Int) == 1) = true := by simp; omega
            clear HST hnm hl1
            cases b1
            · by_cases hrs : r.is = s
              · have e2 : (r.is == s) = true := by simpa using hrs
                clear hrs
                go_wp2_with fail
                go_roundg f'
                case measure => omega
                case rel => exact ⟨j + 1, true, by omega, by simp, rfl, by rw [HST2.out, e2]; rfl, HB.out⟩
              · have e2 : (r.is == s) = false := by simpa using hrs
                go_wp2_with fail
                go_roundg f'
                case measure => omega
                case rel => exact ⟨j + 1, false, by omega, by simp, rfl, by rw [HST2.out, e2]; rfl, HB.out⟩
            · go_wp2_with fail
              go_roundg f'
              case measure => omega
              case rel => exact ⟨j + 1, true, by omega, by simp, rfl, by rw [HST2.out]; rfl, HB.out⟩
          · have hl2 : r.is.length = 2 := by
              unfold okR at hok
              simp [hl1] at hok
              exact hok.2.1
            have HST2 : Hid ((L.take (j + 1)).any (cnd L s name) = (b1 || (List.range s.length).any (atK L s r))) := Lib.hid (by rw [HST.out]; unfold cnd; rw [hnm, if_neg hl1]; simp)
            have e1 : ((r.is.length : Int) == 1) = false := by simp; omega
            have g1 : (ByteArray.mk r.is.toArray).extract 0 1 = ByteArray.mk #[bu r.is 0] := by
              rw [str_mid]
              have : (r.is.drop 0).take (1 - 0) = [bu r.is 0] := by rw [drop_bu (by omega)]; rfl
              rw [this]
            have g2 : (ByteArray.mk r.is.toArray).extract 1 r.is.length = ByteArray.mk #[bu r.is 1] := by
              rw [str_mid, hl2]
              have : (r.is.drop 1).take (2 - 1) = [bu r.is 1] := by rw [drop_bu (by omega)]; rfl
              rw [this]
            have g3 : 1 ≤ r.is.length := by omega
            have HG1 := Lib.hid g1; have HG2 := Lib.hid g2; have HC2 := Lib.hid c2
            clear HST hnm hl1 hl2 hok g1 g2
            go_wp2_with fail
            clear q1 q2 q3 q4 e1 c1 c2
            go_loopg [12, 14] s.length (fun f cv kv wq => ∃ k : Nat, ∃ b2 : Bool, k + f = s.length + 1 ∧ (k = 1 ∨ k ≤ s.length) ∧ 1 ≤ k ∧ kv = .int .i64 (k : Int) ∧ cv = .bool b2 ∧ b2 = (b1 || (List.range k).any (atK L s r)) ∧ Below w.heap.size w wq)
            case atStart => exact ⟨1, b1, by omega, .inl rfl, by omega, rfl, rfl, by simp [List.range_succ, atK], HB.out⟩
            case round =>
              clear HB
              obtain ⟨k, b2, hkf, hko, hk1, rfl, rfl, hb2, hB⟩ := hrel
              by_cases hk : k < s.length
              · obtain ⟨f, rfl⟩ : ∃ f, gk = f + 1 := ⟨gk - 1, by omega⟩
                have hsn : (b1 || (List.range (k + 1)).any (atK L s r)) = (b2 || atK L s r k) := by
                  rw [List.range_succ, List.any_append, ← Bool.or_assoc, ← hb2]; simp
                have HSN := Lib.hid hsn
                have HB := Lib.hid hB
                have d1 : (ByteArray.mk s.toArray).extract 0 k = ByteArray.mk (s.take k).toArray := by rw [str_mid]; simp
                have d2 : (ByteArray.mk s.toArray).extract k s.length = ByteArray.mk (s.drop k).toArray := by rw [str_mid, List.take_of_length_le (by rw [List.length_drop]; omega)]
                have hat : atK L s r k = (hasB (nms L (s.take k)) (bu r.is 0) && hasB (nms L (s.drop k)) (bu r.is 1)) := by unfold atK; rw [decide_eq_true hk1]; rfl
                have HAT := Lib.hid hat
                clear hsn hb2 hB hat
                have l1 := nms_len L (s.take k)
                have l2 := nms_len L (s.drop k)
                have HN1 := Lib.hid (HN.out (s.take k) wr (by rw [List.length_take]; omega) HB.out)
                have HN2 := Lib.hid (fun wr hb => HN.out (s.drop k) wr (by rw [List.length_drop]; omega) hb)
                generalize nms L (s.take k) = X at *
                generalize nms L (s.drop k) = Y at *
                go_wp2_with fail
                refine HN1.out.mono ?_
                rintro e w3 ⟨rfl, hb3⟩
                have HB3 := Lib.hid (HB.out.trans (hb3.mono HB.out.size)); clear hb3
                clear HN1
                go_wp2_with fail
                refine (HN2.out w3 HB3.out).mono ?_
                rintro e w4 ⟨rfl, hb4⟩
                have HB4 := Lib.hid (HB3.out.trans (hb4.mono HB3.out.size)); clear hb4 HN2
                have c3 := HCW.out w4 HB4.out
                have e1 := HG1.out
                have e2 := HG2.out
                cases b2
                · go_wp2_with fail
                  refine (stands_any X (bu r.is 0) w4 (by omega)).mono ?_
                  rintro e w5 ⟨⟨A5, n5, k5, rfl, hn5, hd5⟩, hb5⟩
                  have HB5 := Lib.hid (HB4.out.trans (hb5.mono HB4.out.size)); clear hb5
                  have c4 := HCW.out w5 HB5.out
                  clear c3
                  cases hx : hasB X (bu r.is 0)
                  · rw [hx] at hd5
                    have HA0 : Hid (atK L s r k = false) := Lib.hid (by rw [HAT.out, hx]; rfl)
                    clear hx HAT
                    go_wp2_with fail
                    go_roundg f
                    case measure => omega
                    case rel => exact ⟨k + 1, false, by omega, by omega, by omega, by simp, rfl, by rw [HSN.out, HA0.out]; rfl, HB5.out⟩
                  · rw [hx] at hd5
                    go_wp2_with fail
                    refine (stands_any Y (bu r.is 1) w5 (by omega)).mono ?_
                    rintro e w6 ⟨⟨A6, n6, k6, rfl, hn6, hd6⟩, hb6⟩
                    have HB6 := Lib.hid (HB5.out.trans (hb6.mono HB5.out.size)); clear hb6
                    clear c4
                    cases hy : hasB Y (bu r.is 1)
                    · rw [hy] at hd6
                      have HA0 : Hid (atK L s r k = false) := Lib.hid (by rw [HAT.out, hx, hy]; rfl)
                      clear hx hy HAT
                      go_wp2_with fail
                      go_roundg f
                      case measure => omega
                      case rel => exact ⟨k + 1, false, by omega, by omega, by omega, by simp, rfl, by rw [HSN.out, HA0.out]; rfl, HB6.out⟩
                    · rw [hy] at hd6
                      have HA0 : Hid (atK L s r k = true) := Lib.hid (by rw [HAT.out, hx, hy]; rfl)
                      clear hx hy HAT
                      go_wp2_with fail
                      go_roundg f
                      case measure => omega
                      case rel => exact ⟨k + 1, true, by omega, by omega, by omega, by simp, rfl, by rw [HSN.out, HA0.out]; rfl, HB6.out⟩
                · go_wp2_with fail
                  go_roundg f
                  case measure => omega
                  case rel => exact ⟨k + 1, true, by omega, by omega, by omega, by simp, rfl, by rw [HSN.out]; rfl, HB4.out⟩
              · have hfin : (b1 || (List.range k).any (atK L s r)) = (b1 || (List.range s.length).any (atK L s r)) := by
                  rcases hko with rfl | hko
                  · by_cases h1 : s.length = 1
                    · rw [h1]
                    · have h0 : s.length = 0 := by omega
                      rw [h0]; simp [List.range_succ, atK]
                  · rw [show k = s.length by omega]
                have HF : Hid ((L.take (j + 1)).any (cnd L s name) = b2) := Lib.hid (by rw [HST2.out, ← hfin]; exact hb2.symm)
                have HB := Lib.hid hB
                clear hfin hb2 hB
                go_wp2_with fail
                go_roundg f'
                case measure => omega
                case rel => exact ⟨j + 1, b2, by omega, by simp, rfl, HF.out.symm, HB.out⟩
        · obtain rfl : j = m := by omega
          have hfin : b = b1 := by rw [HIS.out, hb1, List.take_of_length_le (by omega)]
          subst hfin
          have HB := Lib.hid hB
          clear hb1 hB
          cases b
          all_goals
            go_wp2_with fail
            go_ret
            exact ⟨rfl, HB.out⟩
end Go.Proofs.Ytlbiklhndcamhaa
