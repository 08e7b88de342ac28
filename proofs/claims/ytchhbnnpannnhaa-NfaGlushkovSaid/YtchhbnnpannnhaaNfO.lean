/- NfaGlushkov: the law's walk. No condition. NOT CLEAN YET. -/
import Derived.Test.YtchhbnnpannnhaaNfT
import Derived.Test.YtchhbnnpannnhaaNfP
import Derived.Maps.AppendAt
import Derived.Deep.LoopGhost
import Derived.BigQuiet
import Derived.Deep.QuietTactic
namespace Go.Proofs.Ytchhbnnpannnhaa
open Go.RowKit Go.Maps
set_option linter.unusedVariables false
set_option linter.unusedSimpArgs false
attribute [local go_sem] byte_at str_app

theorem srt_step (T : List Nat) (j : Nat) : srt (j + 1) T = if j ∈ T then srt j T ++ [j] else srt j T := by
  unfold srt
  rw [List.range_succ, List.filter_append]
  by_cases h : j ∈ T
  · simp [h]
  · simp [h]
set_option maxRecDepth 100000 in
set_option maxHeartbeats 40000000 in
theorem nfaGlushkov_walk (l u : List UInt8) (w : World) (h9 : l.length ≤ 9223372036854775807) (hu9 : u.length ≤ 9223372036854775807) :
    Calls Try.prog 3 #[S l, S u] w fun e w' => e = .returned (.bool true) ∧ Below w.heap.size w w' := by
  have HF := Lib.hid (nfaFact_any w)
  obtain ⟨i0, hi0, hz0, hz1, hz2⟩ := info_parts info_intN
  have HO := Lib.hid (fun W => ofR_any l W h9)
  go_enter Try.func3, Try.ntmps3
  go_wp2_with fail
  refine HF.out.mono ?_
  rintro e w1 ⟨rfl, hb1⟩
  have HB1 := Lib.hid hb1
  clear hb1
  go_wp2_with fail
  refine (HO.out _).mono ?_
  rintro e w2 ⟨⟨hne, rfl⟩ | ⟨t, A1, A2, A3, c1, c2, c3, h0, h12, ht, rfl, i1, i2, i3⟩, hb2⟩
  · have HE := Lib.hid (err_ne hne)
    have HB2 := Lib.hid (HB1.out.trans (hb2.mono HB1.out.size))
    clear hb2 HO hne
    rw [HE.out]
    go_wp2_with fail
    go_ret
    exact ⟨rfl, HB2.out⟩
  have HB2 := Lib.hid (HB1.out.trans (hb2.mono HB1.out.size))
  have HMA := Lib.hid (match_any l u w2 h9 hu9)
  have HE0 : Hid (matchE l u = if 8 < u.length then 4 else 0) := Lib.hid (by unfold matchE; rw [h0]; rfl)
  have HVV : Hid (matchV l u = (decide (matchE l u = 0) && mtch t u)) := Lib.hid (by unfold matchV; rw [ht])
  generalize matchE l u = E at *
  generalize matchV l u = V at *
  clear hb2 HO
  by_cases hu : u = []
  · subst hu
    clear HMA HE0 HVV
    go_wp2_with fail
    go_ret
    exact ⟨rfl, HB2.out⟩
  have hue : u.isEmpty = false := by cases u with | nil => exact absurd rfl hu | cons c s => rfl
  by_cases h8 : 8 < u.length
  · have e1 : E = 4 := by rw [HE0.out, if_pos h8]
    have e2 : V = false := by rw [HVV.out, e1]; rfl
    subst e1 e2
    have hma := HMA.out
    rw [err_ne (show (4 : Int) ≠ 0 by decide)] at hma
    have HMB := Lib.hid hma
    clear HE0 HVV HMA hma
    go_wp2_with fail
    refine HMB.out.mono ?_
    rintro e w3 ⟨rfl, hb3⟩
    have HB3 := Lib.hid (HB2.out.trans (hb3.mono HB2.out.size))
    clear hb3
    go_wp2_with fail
    go_ret
    exact ⟨rfl, HB3.out⟩
  have e1 : E = 0 := by rw [HE0.out, if_neg h8]
  have e2 : V = simP t u := by rw [HVV.out, e1]; simp [mtch, hu]
  subst e1 e2
  have hma := HMA.out
  rw [show errV 0 = Value.nilIface from rfl] at hma
  have HMB := Lib.hid hma
  clear HE0 HVV HMA hma
  go_wp2_with fail
  refine HMB.out.mono ?_
  rintro e w3 ⟨rfl, hb3⟩
  have HB3 := Lib.hid (HB2.out.trans (hb3.mono HB2.out.size))
  have HI := Lib.hid (And.intro ((i1.below hb3).more hb3.size) (And.intro ((i2.below hb3).more hb3.size) ((i3.below hb3).more hb3.size)))
  have hlv := (par_leaves ht).1
  have HLV := Lib.hid hlv
  have HL := Lib.hid (letters_any l w3 (by omega))
  have hn12 : (leaves t).length ≤ 12 := by rw [hlv]; exact Nat.le_trans (List.length_filter_le _ _) h12
  have hll : (lets l).length = (leaves t).length := by rw [hlv]
  have HFN : Hid (∀ x ∈ srt (leaves t).length (fsP t), x < (leaves t).length) := Lib.hid (fun x h => (mem_srt.1 h).1)
  have hm12 : (srt (leaves t).length (fsP t)).length ≤ 12 := Nat.le_trans (by unfold srt; exact Nat.le_trans (List.length_filter_le _ _) (by simp)) hn12
  have hsm : Sm (leaves t).length t := by obtain ⟨q1, q2⟩ := par_leaves ht; exact Sm.of_num q2 (Nat.le_of_eq (by rw [q1]))
  have HSM := Lib.hid hsm
  have hup : 0 < u.length := List.length_pos_iff.2 hu
  clear i1 i2 i3 hb3 hlv ht h0 hsm
  go_wp2_with fail
  refine HL.out.mono ?_
  rintro e w4 ⟨rfl, rfl⟩
  have hl1 : IntKind.i64.wrap (((leaves t).length : Int) - 1) = ((leaves t).length : Int) - 1 := IntWalk.i64_in _ (by omega)
  go_wp2_with fail
  go_loopw [12, 13, 14] (fun nv bv kv wr => ∃ (k : Nat) (L : List Nat) (A : Option Addr) (cc : Nat) (b : Bool), nv = .slice A L.length cc ∧ bv = .bool b ∧ kv = .int .i64 (k : Int) ∧ k ≤ u.length ∧ Hid (Ints wr wr.heap.size A L.length (zs L)) ∧ Hid (Below w3.heap.size w3 wr) ∧
      Hid ((∀ x ∈ L, x < (leaves t).length) ∧ L.length ≤ 12 ∧ (k < u.length → simT t L (u.drop k) = simP t u) ∧ (k = u.length → b = simP t u))) (fun _ _ kv _ => u.length - (intOf kv).toNat)
  case atStart => exact ⟨0, srt (leaves t).length (fsP t), A1, c1, false, rfl, rfl, rfl, Nat.zero_le _, Lib.hid HI.out.1, Lib.hid (Below.refl _ _), Lib.hid ⟨HFN.out, hm12, fun _ => simT_srt HSM.out u, fun h => by omega⟩⟩
  case round =>
    obtain ⟨k, L, A, cc, b, rfl, rfl, rfl, hku, HN, HBW, HX⟩ := hrel
    by_cases hk : k < u.length
    · have z1 : (k : Int) < (u.length : Int) := by omega
      generalize wr = WO at *
      have hbw := HBW.out
      have hw3 : w3.heap.size ≤ WO.heap.size := hbw.size
      have HI2 : Hid (Ints WO w3.heap.size A2 (srt (leaves t).length (lsP t)).length (zs (srt (leaves t).length (lsP t))) ∧ Rws WO w3.heap.size A3 (leaves t).length (nxL (leaves t).length t)) := Lib.hid ⟨HI.out.2.1.below hbw, HI.out.2.2.below hbw⟩
      have HW3 := Lib.hid hw3
      clear hbw hw3
      go_wp2_with fail
      go_loopw [13, 15, 16] (fun bv tv iv wr2 => ∃ (i : Nat) (T : List Nat), iv = .int .i64 (i : Int) ∧ bv = .bool ((L.take i).any (endQ t (bu u k))) ∧ i ≤ L.length ∧ Hid (wr2.ownsRow WO.heap.size 3 1 tv T.length (T.map eI)) ∧ Hid (T = toT t (bu u k) (L.take i)) ∧ Hid (Below WO.heap.size WO wr2)) (fun _ _ iv _ => L.length - (intOf iv).toNat)
      case atStart => exact ⟨0, [], rfl, rfl, Nat.zero_le _, Lib.hid (World.ownsRow_nil _ _ _ _), Lib.hid rfl, Lib.hid (Below.refl _ _)⟩
      case round =>
        obtain ⟨i, T, rfl, rfl, hil, HTO, HTT, HBW2⟩ := hrel
        by_cases hi : i < L.length
        · obtain ⟨x, hx⟩ : ∃ x, L[i]? = some x := ⟨_, List.getElem?_eq_getElem hi⟩
          have hxn := HX.out.1 x (List.mem_of_getElem? hx)
          have hni := HN.out.below HBW2.out
          obtain ⟨b1, o1, rfl, hb1, hc⟩ := hni.at_ hi
          rw [gi_zs hx] at hc
          obtain ⟨b3, o3, a, m3, c3', rfl, hb3, hc3, hi3⟩ := (HI2.out.2.below (HBW2.out.mono HW3.out)).at_ hxn
          rw [ro_nxL hxn] at hi3
          have HI3 := Lib.hid hi3
          have hL12 := HX.out.2.1
          have HTL : Hid (T.length ≤ 144 ∧ (nxN (leaves t).length t x).length ≤ 12) := Lib.hid (by
            refine ⟨?_, ?_⟩
            · rw [HTT.out]
              refine Nat.le_trans (toT_len _) (Nat.mul_le_mul (Nat.le_trans (List.length_take_le _ _) (show i ≤ 12 by omega)) hn12)
            · unfold nxN; exact Nat.le_trans (List.length_filter_le _ _) (by simpa using hn12))
          have HST := Lib.hid (toT_step (t := t) (c := bu u k) hx)
          have HAN := Lib.hid (any_step (endQ t (bu u k)) hx)
          have hin : decide ((0 : Int) ≤ (x : Int) ∧ (x : Int) ≤ ((leaves t).length : Int) - 1) = true := decide_eq_true ⟨by omega, by omega⟩
          have HIX := Lib.hid (fun W => by have h := inl_any (x : Int) 0 (((leaves t).length : Int) - 1) W; rw [hin] at h; exact h)
          have hdec : decide ((x : Int) ∈ zs (srt (leaves t).length (lsP t))) = decide (x ∈ lsP t) := by rw [Bool.eq_iff_iff, decide_eq_true_eq, decide_eq_true_eq, mem_zs, mem_srt]; exact ⟨fun h => h.2, fun h => ⟨hxn, h⟩⟩
          have HHA := Lib.hid (fun W (h : Below WO.heap.size WO W) => by have h := has3_any A2 (srt (leaves t).length (lsP t)).length c2 w3.heap.size (zs (srt (leaves t).length (lsP t))) (x : Int) W (HI2.out.1.below (h.mono HW3.out)) (Nat.le_trans (srt_len _ _) (by omega)); rw [hdec] at h; exact h)
          have z1 : (i : Int) < (L.length : Int) := by omega
          have z2 : (x : Int) < ((leaves t).length : Int) := by omega
          have z3 : IntKind.i64.wrap ((i : Int) + 1) = (i : Int) + 1 := IntWalk.i64_in _ (by omega)
          have HQ : Hid (endQ t (bu u k) x = (decide (bu (lets l) x = bu u k) && decide (x ∈ lsP t))) := Lib.hid (by unfold endQ; rw [HLV.out])
          have heb : (((bu (lets l) x).toNat : Int) == ((bu u k).toNat : Int)) = decide (bu (lets l) x = bu u k) := same_dec _ _
          have HEB : Hid ((bu (leaves t) x = bu u k) ↔ decide (bu (lets l) x = bu u k) = true) := Lib.hid (by rw [HLV.out, decide_eq_true_eq])
          have HXL := Lib.hid hx
          clear hdec hi3 hx hin hni
          generalize (L.take i).any (endQ t (bu u k)) = sk at *
          generalize endQ t (bu u k) x = q at *
          generalize decide (x ∈ lsP t) = d at *
          generalize decide (bu (lets l) x = bu u k) = ee at *
          cases ee
          · have HS2 : Hid (T = toT t (bu u k) (L.take (i + 1))) := Lib.hid (by rw [HST.out, if_neg (fun h => by have := HEB.out.1 h; cases this), List.append_nil]; exact HTT.out)
            have HA2 : Hid ((L.take (i + 1)).any (endQ t (bu u k)) = sk) := Lib.hid (by rw [HAN.out, HQ.out]; simp)
            go_wp2_with ((go_at_call 10; refine (HIX.out _).mono ?_; rintro e w' ⟨rfl, rfl⟩))
            go_quiet (fail)
            go_wp2_with fail
            go_roundw
            case rel => exact ⟨i + 1, T, by go_num, by rw [HA2.out], by omega, HTO, HS2, Lib.hid (below_drewN HBW2.out _)⟩
            case measure => simp [intOf]; omega
          · have HS2 : Hid (T ++ nxN (leaves t).length t x = toT t (bu u k) (L.take (i + 1))) := Lib.hid (by rw [HST.out, if_pos (HEB.out.2 rfl), ← HTT.out])
            have HA2 : Hid ((L.take (i + 1)).any (endQ t (bu u k)) = (sk || d)) := Lib.hid (by rw [HAN.out, HQ.out]; simp)
            cases sk
            all_goals
              go_wp2_with ((go_at_call 10; refine (HIX.out _).mono ?_; rintro e w' ⟨rfl, rfl⟩))
              go_quiet (fail)
              go_wp2_with (first
                | (at_builtin; refine wpList_append_row rfl (.tmp 95) (.tmp 102) rfl WO.heap.size _ T (nxN (leaves t).length t x) rfl HTO.out a m3 c3' w3.heap.size rfl HI3.out (by have := HTL.out; omega) HBW2.out.size ?_; intro v' w' hown' hgr' hbl'; have hc' := (hbl'.cell (p := ⟨b1, o1 + i, none⟩) hb1).trans hc; have HTO2 := Lib.hid hown'; have HB4 := Lib.hid ((below_drewN HBW2.out nq).trans hbl'); clear hown' hgr' hbl'; go_frame)
                | (go_at_call 11; refine (HHA.out _ HB4.out).mono ?_; rintro e w' ⟨rfl, rfl⟩))
              go_roundw
              case rel => exact ⟨i + 1, _, by go_num, by simp [HA2.out], by omega, HTO2, HS2, HB4⟩
              case measure => simp [intOf]; omega
        · obtain rfl : i = L.length := by omega
          obtain ⟨A', c', rfl, HTI⟩ := ints_of_own HTO.out
          have HTT2 : Hid (T = toT t (bu u k) L) := Lib.hid (by rw [HTT.out, List.take_length])
          have HTL : Hid (T.length ≤ 144) := Lib.hid (by
            rw [HTT2.out]
            exact Nat.le_trans (toT_len L) (Nat.mul_le_mul HX.out.2.1 hn12))
          rw [List.take_length]
          have HTI2 := Lib.hid HTI
          have HBP := Lib.hid (HBW.out.trans (HBW2.out.mono HBW.out.size))
          clear HTI HTT
          generalize wr = WP at *
          go_wp2_with fail
          go_loopw [12, 17] (fun nv jv wr3 => ∃ j : Nat, jv = .int .i64 (j : Int) ∧ j ≤ (leaves t).length ∧ Hid (wr3.ownsRow WP.heap.size 3 1 nv (srt j T).length ((srt j T).map eI)) ∧ Hid (Below WP.heap.size WP wr3)) (fun _ jv _ => (leaves t).length - (intOf jv).toNat)
          case atStart => exact ⟨0, rfl, Nat.zero_le _, Lib.hid (World.ownsRow_nil _ _ _ _), Lib.hid (Below.refl _ _)⟩
          case round =>
            obtain ⟨j, rfl, hjn, HNO, HBW3⟩ := hrel
            by_cases hj : j < (leaves t).length
            · have hHA := has3_any A' T.length c' _ (zs T) (j : Int) _ (HTI2.out.below HBW3.out) (by have := HTL.out; omega)
              have hdj : decide ((j : Int) ∈ zs T) = decide (j ∈ T) := by rw [Bool.eq_iff_iff, decide_eq_true_eq, decide_eq_true_eq, mem_zs]
              rw [hdj] at hHA
              have HHJ := Lib.hid hHA
              have hsj := srt_step T j
              have HSL := Lib.hid (Nat.le_trans (srt_len j T) hjn)
              have z4 : (j : Int) < ((leaves t).length : Int) := by omega
              have z5 : IntKind.i64.wrap ((j : Int) + 1) = (j : Int) + 1 := IntWalk.i64_in _ (by omega)
              clear hHA hdj
              by_cases hjT : j ∈ T
              · rw [decide_eq_true hjT] at HHJ
                rw [if_pos hjT] at hsj
                have HSJ := Lib.hid hsj
                clear hsj
                go_wp2_with (first
                  | (go_at_call 11; refine HHJ.out.mono ?_; rintro e w' ⟨rfl, rfl⟩)
                  | (at_builtin; refine wpList_append1 rfl (.tmp 122) (.tmp 124) _ rfl 3 i0 _ Try.underlying23 hi0 hz0 hz1 (by omega) rfl WP.heap.size _ ((srt j T).map eI) (eI j) rfl rfl rfl (by have h := HNO.out; rwa [← List.length_map (f := eI)] at h) (by have := HSL.out; rw [List.length_map]; omega) HBW3.out.size ?_; intro v' w' hown' hbl'; have HN2 := Lib.hid hown'; have HB5 := Lib.hid (HBW3.out.trans hbl'); clear hown' hbl'; go_frame))
                go_roundw
                case rel => exact ⟨j + 1, by go_num, by omega, by rw [HSJ.out, List.map_append]; exact Lib.hid (by have h := HN2.out; simpa using h), HB5⟩
                case measure => simp [intOf]; omega
              · rw [decide_eq_false hjT] at HHJ
                rw [if_neg hjT] at hsj
                have HSJ := Lib.hid hsj
                clear hsj
                go_wp2_with (first
                  | (go_at_call 11; refine HHJ.out.mono ?_; rintro e w' ⟨rfl, rfl⟩))
                go_roundw
                case rel => exact ⟨j + 1, by go_num, by omega, by rw [HSJ.out]; exact HNO, HBW3⟩
                case measure => simp [intOf]; omega
            · obtain rfl : j = (leaves t).length := by omega
              obtain ⟨A'', c'', rfl, HNI⟩ := ints_of_own HNO.out
              have HNI2 := Lib.hid HNI
              have HB6 := Lib.hid (HBP.out.trans (HBW3.out.mono (Nat.le_trans HW3.out HBW2.out.size)))
              have HX2 : Hid ((∀ x ∈ srt (leaves t).length T, x < (leaves t).length) ∧ (srt (leaves t).length T).length ≤ 12 ∧ (k + 1 < u.length → simT t (srt (leaves t).length T) (u.drop (k + 1)) = simP t u) ∧ (k + 1 = u.length → L.any (endQ t (bu u k)) = simP t u)) := Lib.hid (by
                refine ⟨fun x h => (mem_srt.1 h).1, Nat.le_trans (srt_len _ _) hn12, fun h => ?_, fun h => ?_⟩
                · rw [← HX.out.2.2.1 hk, HTT2.out, simT_next HSM.out h HX.out.1]
                · rw [← HX.out.2.2.1 hk, simT_last h HX.out.1])
              have hw1 : IntKind.i64.wrap ((k : Int) + 1) = (k : Int) + 1 := IntWalk.i64_in _ (by omega)
              clear HNI
              go_wp2_with fail
              go_roundw
              case rel => exact ⟨k + 1, srt (leaves t).length T, A'', c'', _, rfl, rfl, by go_num, by omega, HNI2, HB6, HX2⟩
              case measure => simp [intOf]; omega
    · obtain rfl : k = u.length := by omega
      have hb : b = simP t u := HX.out.2.2.2 rfl
      have hsame : (simP t u == simP t u) = true := by simp
      have HZ := Lib.hid (HB3.out.trans (HBW.out.mono HB3.out.size))
      subst hb
      generalize simP t u = V at *
      go_wp2_with fail
      go_ret
      exact ⟨rfl, HZ.out⟩
end Go.Proofs.Ytchhbnnpannnhaa
