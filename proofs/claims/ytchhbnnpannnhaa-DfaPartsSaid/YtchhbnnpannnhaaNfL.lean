/- NfaEnds: the law's walk. No condition. -/
import Derived.Test.YtchhbnnpannnhaaNfK
import Derived.Test.YtchhbnnpannnhaaNfN
namespace Go.Proofs.Ytchhbnnpannnhaa
open Go.RowKit Go.Maps
set_option linter.unusedVariables false
set_option linter.unusedSimpArgs false
attribute [local go_sem] byte_at str_app

theorem gi_zs {L : List Nat} {k x : Nat} (h : L[k]? = some x) : gi (zs L) k = (x : Int) := by
  obtain ⟨hk, rfl⟩ := List.getElem?_eq_some_iff.1 h
  rw [gi_eq (by simpa using hk)]; simp
theorem mem_zs {L : List Nat} {x : Nat} : ((x : Int) ∈ zs L) ↔ x ∈ L := by
  constructor
  · intro h
    obtain ⟨j, hj, e⟩ := List.mem_map.1 h
    obtain rfl : j = x := by omega
    exact hj
  · intro h; exact List.mem_map.2 ⟨x, h, rfl⟩
theorem nxN_nil {s : List UInt8} {t : Pt} (h : par s = some t) {x : Nat} (hx : x < (leaves t).length) (hn : nxN (leaves t).length t x = []) : x ∈ lsP t := by
  rcases co_acc h hx with h1 | ⟨j, hj⟩
  · exact h1
  · obtain ⟨q1, q2⟩ := par_leaves h
    have hs := (sm_fs (Sm.of_num q2 (Nat.le_of_eq (by rw [q1])) : Sm (leaves t).length t)).2.2 x j hj
    have : j ∈ nxN (leaves t).length t x := by unfold nxN; rw [List.mem_filter]; exact ⟨List.mem_range.2 hs.2, decide_eq_true hj⟩
    rw [hn] at this; cases this
def endQ (t : Pt) (c : UInt8) (x : Nat) : Bool := decide (bu (leaves t) x = c) && decide (x ∈ lsP t)
theorem any_step {L : List Nat} (q : Nat → Bool) {k x : Nat} (h : L[k]? = some x) : (L.take (k + 1)).any q = ((L.take k).any q || q x) := by
  rw [List.take_add_one, h, List.any_append]; simp
set_option maxRecDepth 100000 in
set_option maxHeartbeats 40000000 in
theorem nfaEnds_walk (l : List UInt8) (c : UInt8) (w : World) (h9 : l.length ≤ 9223372036854775807) :
    Calls Try.prog 4 #[S l, .int .u8 (c.toNat : Int)] w fun e w' => e = .returned (.bool true) ∧ Below w.heap.size w w' := by
  have HF := Lib.hid (nfaFact_any w)
  have HO := Lib.hid (fun W => ofR_any l W h9)
  go_enter Try.func4, Try.ntmps4
  go_wp2_with fail
  refine HF.out.mono ?_
  rintro e w1 ⟨rfl, hb1⟩
  have HB1 := Lib.hid hb1
  clear hb1
  go_wp2_with fail
  refine (HO.out _).mono ?_
  rintro e w2 ⟨⟨hne, rfl⟩ | ⟨t, A1, A2, A3, c1, c2, c3, h0, h12, ht, rfl, i1, i2, i3⟩, hb2⟩
  · have HE := Lib.hid (err_ne hne)
    have HB2 := Lib.hid (HB1.out.trans (hb2.mono HB1.out.size))
    clear hb2 HO hne
    rw [HE.out]
    go_wp2_with fail
    go_ret
    exact ⟨rfl, HB2.out⟩
  have HB2 := Lib.hid (HB1.out.trans (hb2.mono HB1.out.size))
  have HT := Lib.hid ht
  have hlv := (par_leaves ht).1
  have HLV := Lib.hid hlv
  have HL := Lib.hid (letters_any l w2 (by omega))
  have HI := Lib.hid (And.intro i1 (And.intro i2 i3))
  have hn12 : (leaves t).length ≤ 12 := by rw [hlv]; exact Nat.le_trans (List.length_filter_le _ _) h12
  have HM : Hid (∀ W, Calls Try.prog 8 #[S l, S [c]] W fun e w' => e = .returned (.tuple #[.bool (simP t [c]), .nilIface]) ∧ Below W.heap.size W w') := Lib.hid fun W => by
    have h := match_any l [c] W h9 (by simp)
    have e1 : matchE l [c] = 0 := by unfold matchE; rw [h0]; rfl
    have e2 : matchV l [c] = simP t [c] := by unfold matchV; rw [e1, ht]; simp [mtch]
    rw [e1, e2] at h
    exact h
  have HSO : Hid (simP t [c] = (srt (leaves t).length (fsP t)).any (endQ t c)) := Lib.hid (sim_one t c)
  have hFn : ∀ x ∈ srt (leaves t).length (fsP t), x < (leaves t).length := fun x h => (mem_srt.1 h).1
  have HFN := Lib.hid hFn
  have hm12 : (srt (leaves t).length (fsP t)).length ≤ 12 := Nat.le_trans (by unfold srt; exact Nat.le_trans (List.length_filter_le _ _) (by simp)) hn12
  have HCO : Hid (∀ x, x < (leaves t).length → (nxN (leaves t).length t x).length = 0 → x ∈ lsP t) := Lib.hid fun x hx h => nxN_nil ht hx (List.eq_nil_of_length_eq_zero h)
  have hll : (lets l).length = (leaves t).length := by rw [hlv]
  clear i1 i2 i3 hb2 HO hlv hFn ht h0
  generalize hFL : srt (leaves t).length (fsP t) = FL at *
  go_wp2_with fail
  refine HL.out.mono ?_
  rintro e w3 ⟨rfl, rfl⟩
  have hl1 : IntKind.i64.wrap (((leaves t).length : Int) - 1) = ((leaves t).length : Int) - 1 := IntWalk.i64_in _ (by omega)
  have hbn : ((((leaves t).length : Nat) : Int) != (((lets l).length : Nat) : Int)) = false := by rw [hll]; simp
  have HLL := Lib.hid hll
  have HHA := Lib.hid (fun x : Nat => has3_any A2 (srt (leaves t).length (lsP t)).length c2 w2.heap.size (zs (srt (leaves t).length (lsP t))) (x : Int) w2 HI.out.2.1 (by unfold srt; exact Nat.le_trans (List.length_filter_le _ _) (by simp; omega)))
  have hIN := fun x : Int => inl_any x 0 (((leaves t).length : Int) - 1) w2
  go_wp2_with fail
  go_loopw [11, 12] (fun isv iv wr => ∃ k : Nat, iv = .int .i64 (k : Int) ∧ isv = .bool ((FL.take k).any (endQ t c)) ∧ k ≤ FL.length ∧ w2 = wr) (fun _ iv _ => FL.length - (intOf iv).toNat)
  case atStart => exact ⟨0, rfl, rfl, Nat.zero_le _, rfl⟩
  case round =>
    obtain ⟨k, rfl, rfl, hkm, rfl⟩ := hrel
    by_cases hk : k < FL.length
    · obtain ⟨x, hx⟩ : ∃ x, FL[k]? = some x := ⟨_, List.getElem?_eq_getElem hk⟩
      have hxn := HFN.out x (List.mem_of_getElem? hx)
      obtain ⟨b, off, rfl, _, hc⟩ := HI.out.1.at_ hk
      rw [gi_zs hx] at hc
      have HST : Hid ((FL.take (k + 1)).any (endQ t c) = ((FL.take k).any (endQ t c) || endQ t c x)) := Lib.hid (any_step _ hx)
      obtain ⟨b3, o3, a, m3, c3', rfl, _, hc3, hi3⟩ := HI.out.2.2.at_ hxn
      have hm3 : (nxN (leaves t).length t x).length = m3 := by have h := hi3.1; rw [ro_nxL hxn] at h; simpa using h
      have hin : decide ((0 : Int) ≤ (x : Int) ∧ (x : Int) ≤ ((leaves t).length : Int) - 1) = true := decide_eq_true ⟨by omega, by omega⟩
      have HH := HHA.out x
      have z1 : (k : Int) < (FL.length : Int) := by omega
      have z2 : (x : Int) < ((leaves t).length : Int) := by omega
      have hix := hIN (x : Int)
      rw [hin] at hix
      have hdec : decide ((x : Int) ∈ zs (srt (leaves t).length (lsP t))) = decide (x ∈ lsP t) := by rw [Bool.eq_iff_iff, decide_eq_true_eq, decide_eq_true_eq, mem_zs, mem_srt]; exact ⟨fun h => h.2, fun h => ⟨hxn, h⟩⟩
      rw [hdec] at HH
      have HCX : Hid (m3 = 0 → decide (x ∈ lsP t) = true) := Lib.hid (fun h => decide_eq_true (HCO.out x hxn (by omega)))
      have HQ : Hid (endQ t c x = (decide (bu (lets l) x = c) && decide (x ∈ lsP t))) := Lib.hid (by unfold endQ; rw [HLV.out])
      generalize endQ t c x = q at *
      generalize (FL.take k).any (endQ t c) = sk at *
      have hw1 : IntKind.i64.wrap ((k : Int) + 1) = (k : Int) + 1 := IntWalk.i64_in _ (by omega)
      clear hdec hi3 hx
      generalize decide (x ∈ lsP t) = d at *
      have HHH := Lib.hid HH
      have HIX := Lib.hid hix
      clear HH hix hIN
      have heb : (((bu (lets l) x).toNat : Int) == (c.toNat : Int)) = decide (bu (lets l) x = c) := same_dec _ _
      generalize decide (bu (lets l) x = c) = ee at *
      have hmb : (((m3 : Nat) : Int) == 0) = decide (m3 = 0) := by rw [Bool.eq_iff_iff, beq_iff_eq, decide_eq_true_eq]; omega
      have HZD : Hid (decide (m3 = 0) = true → d = true) := Lib.hid (fun h => HCX.out (of_decide_eq_true h))
      have HW2 := HB2
      clear hm3
      generalize decide (m3 = 0) = z at *
      cases z
      all_goals cases sk
      all_goals cases ee
      all_goals cases d
      all_goals first
        | exact absurd (HZD.out rfl) (by decide)
        | skip
      all_goals
        have hs1 : (FL.take (k + 1)).any (endQ t c) = _ := HST.out
        rw [HQ.out] at hs1
        simp only [Bool.and_true, Bool.and_false, Bool.true_or, Bool.false_or, Bool.or_true, Bool.or_false, Bool.true_and, Bool.false_and] at hs1
        have HS1 := Lib.hid hs1
        clear hs1
        go_wp2_with (first
          | (go_at_call 10; refine HIX.out.mono ?_; rintro e w' ⟨rfl, rfl⟩)
          | (go_at_call 11; refine HHH.out.mono ?_; rintro e w' ⟨rfl, rfl⟩))
        go_roundw
        case rel => exact ⟨k + 1, by go_num, by rw [HS1.out], by omega, by first | rfl | trivial⟩
        case measure => simp [intOf]; omega
    · obtain rfl : k = FL.length := by omega
      have HBL : Hid (Below w.heap.size w (w2.alloc (.cells #[.int .u8 (c.toNat : Int)] 5))) := Lib.hid (HB2.out.trans (((Below.refl _ w2).alloc (Nat.le_refl _) _).mono HB2.out.size))
      have hcv : (convert 35 9 (.slice (some ⟨w2.heap.size, 0, none⟩) 1 1)).run Try.prog (w2.alloc (.cells #[.int .u8 (c.toNat : Int)] 5)) = .ok (S [c]) (w2.alloc (.cells #[.int .u8 (c.toNat : Int)] 5)) := run_convert_bytes_back (P := Try.prog) (w2.alloc (.cells #[.int .u8 (c.toNat : Int)] 5)) 35 9 5 ⟨w2.heap.size, 0, none⟩ 1 [c] Try.underlying35 Try.underlying5 Try.underlying9 (fun j hj => by
        obtain rfl : j = 0 := by simpa using hj
        simp [Addr.add, World.cell?_alloc_new])
      have HMM := Lib.hid (HM.out (w2.alloc (.cells #[.int .u8 (c.toNat : Int)] 5)))
      rw [List.take_length] at *
      rw [HSO.out] at HMM
      have hsame : (FL.any (endQ t c) == FL.any (endQ t c)) = true := by simp
      generalize FL.any (endQ t c) = q at *
      go_wp2_with fail
      refine HMM.out.mono ?_
      rintro e w5 ⟨rfl, hb5⟩
      have HB5 := Lib.hid (HBL.out.trans (hb5.mono HBL.out.size))
      clear hb5
      go_wp2_with fail
      go_ret
      exact ⟨rfl, HB5.out⟩
end Go.Proofs.Ytchhbnnpannnhaa
