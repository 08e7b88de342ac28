/- package dfa's Takes, at every machine and text. No condition. -/
import Derived.Test.YtchhbnnpannnhaaGreatDoorShelf
import Derived.Test.YtchhbnnpannnhaaGreatDoorMg7
import Derived.Test.YtchhbnnpannnhaaGreatDoorMg15
namespace Go.Proofs.YtchhbnnpannnhaaGreatDoor
open Go.RowKit IntWalk
set_option linter.unusedSimpArgs false
attribute [local go_sem] byte_at str_app
attribute [local go_sem ↓] Go.wp_at_zero Go.wp_at_succ

theorem ixB : ∀ (l : List UInt8) (c : UInt8), Lib.indexByte l c = if c ∈ l then (l.idxOf c : Int) else -1
  | [], c => by simp [Lib.indexByte]
  | a :: l, c => by
    unfold Lib.indexByte
    rw [ixB l c]
    by_cases h : a = c
    · subst h; simp
    · have h' : ¬ c = a := fun e => h e.symm
      by_cases hm : c ∈ l
      · have hb : (a == c) = false := by simp [h]
        rw [if_neg (by simp [h])]
        simp only [hm, if_true, List.mem_cons, h', false_or, List.idxOf_cons, hb, cond_false]
        rw [if_neg (by simp)]
        first | done | simp
      · simp [h, h', hm]
theorem Mc.leadB_take {M : Mc} {s : List UInt8} {k a : Nat} (hk : k < s.length) (h : M.leadB 0 (s.take k) = some a) (hm : bu s k ∈ M.sg) : M.leadB 0 (s.take (k + 1)) = some (M.st a (M.sg.idxOf (bu s k))) := by
  rw [take_succ_bu hk, Mc.leadB_app, h]
  show M.leadB a [bu s k] = _
  unfold Mc.leadB; rw [if_pos hm]; try rfl
theorem Mc.leadB_none {M : Mc} {s : List UInt8} {k a : Nat} (hk : k < s.length) (h : M.leadB 0 (s.take k) = some a) (hm : bu s k ∉ M.sg) : M.leadB 0 s = none := by
  have e : s = s.take k ++ (bu s k :: s.drop (k + 1)) := by
    have h1 : s.drop k = bu s k :: s.drop (k + 1) := by rw [List.drop_eq_getElem_cons hk]; unfold bu; rw [List.getElem?_eq_getElem hk]; rfl
    rw [← h1, List.take_append_drop]
  rw [e, Mc.leadB_app, h]
  show M.leadB a (bu s k :: _) = _
  rw [Mc.leadB, if_neg hm]

/-- What Takes answers. -/
def takesE (M : Mc) (s : List UInt8) : Int := if M.wrong ≠ 0 then M.wrong else if 24 < s.length then 4 else 0
def takesV (M : Mc) (s : List UInt8) : Bool := decide (M.wrong = 0) && decide (s.length ≤ 24) && M.takesB s


set_option maxRecDepth 100000 in
set_option maxHeartbeats 4000000 in
theorem takes_any (M : Mc) (A A2 : Option Addr) (n c m c2 B : Nat) (s : List UInt8) (w : World) (hM : MacW w B A n A2 m M) (hB : B ≤ w.heap.size) :
    Calls Tryz.prog 7 #[mcv M.sg A n c A2 m c2, S s] w fun e w' => e = .returned (.tuple #[.bool (takesV M s), errV (takesE M s)]) ∧ Below w.heap.size w w' := by
  obtain ⟨c0, c1, c2'⟩ := mac_cells w M.sg A n c A2 m c2 25
  generalize hw1 : w.alloc (.cells #[S M.sg, .slice A n c, .slice A2 m c2] 25) = w1 at *
  have HZ1 : w1.heap.size = w.heap.size + 1 := by rw [← hw1]; simp
  have hb1 : Below w.heap.size w w1 := by rw [← hw1]; exact (Below.refl _ w).alloc (Nat.le_refl _) _
  have HB1 := Lib.hid hb1
  have HM1 := Lib.hid (hM.below (hb1.mono hB))
  have HCK := Lib.hid (mcheck_any M A A2 n c m c2 B w1 HM1.out (by omega))
  have HC := Lib.hid (And.intro c0 (And.intro c1 c2'))
  have HZ := Lib.hid HZ1
  have HBB := Lib.hid hB
  clear hb1 hM hB HZ1
  by_cases hw : M.wrong = 0
  · rw [hw, show errV 0 = .nilIface from rfl] at HCK
    have HO := Lib.hid (Mc.wrong_zero.1 hw)
    have HW := Lib.hid hw
    clear hw
    go_enter Tryz.func7, Tryz.ntmps7
    go_wp2_with fail
    clear hw1 c0 c1 c2'
    refine HCK.out.mono ?_
    rintro e w3 ⟨rfl, hb3⟩
    have HB3 := Lib.hid (HB1.out.trans (hb3.mono HB1.out.size))
    have HM3 := Lib.hid (HM1.out.below (hb3.mono (by have := HBB.out; have := HZ.out; omega)))
    have hc0 := (hb3.cell (p := ⟨w.heap.size, 0, none⟩) (by show w.heap.size < w1.heap.size; have := HZ.out; omega)).trans HC.out.1
    have hc1 := (hb3.cell (p := ⟨w.heap.size, 1, none⟩) (by show w.heap.size < w1.heap.size; have := HZ.out; omega)).trans HC.out.2.1
    have hc2 := (hb3.cell (p := ⟨w.heap.size, 2, none⟩) (by show w.heap.size < w1.heap.size; have := HZ.out; omega)).trans HC.out.2.2
    have HC3 := Lib.hid (And.intro hc0 (And.intro hc1 hc2))
    have HZ3 : Hid (w.heap.size < w3.heap.size) := Lib.hid (by have := hb3.size; have := HZ.out; omega)
    clear hb3 HCK HM1 HB1 HC HZ hc0 hc1 hc2
    go_wp2_with fail
    by_cases hl : 24 < s.length
    · have HV : Hid (takesV M s = false ∧ takesE M s = 4) := Lib.hid ⟨by unfold takesV; rw [decide_eq_false (by omega : ¬ s.length ≤ 24)]; simp, by unfold takesE; rw [if_neg (fun h => h HW.out), if_pos hl]⟩
      have HB4 := Lib.hid (HB3.out.alloc HB3.out.size (.cells #[S s] 9))
      refine Calls.mono (long1_yes 24 s _ w3.heap.size 0 (by rw [World.cell?_alloc_new]; rfl) (by omega)) ?_
      rintro e w4 ⟨rfl, rfl⟩
      go_wp2_with fail
      go_ret2
      exact ⟨by rw [HV.out.1, HV.out.2]; rfl, HB4.out⟩
    · have HV : Hid (takesV M s = M.takesB s ∧ takesE M s = 0) := Lib.hid ⟨by unfold takesV; rw [decide_eq_true (by omega : s.length ≤ 24), decide_eq_true HW.out]; simp, by unfold takesE; rw [if_neg (fun h => h HW.out), if_neg hl]⟩
      have hb4 := (Below.refl w3.heap.size w3).alloc (Nat.le_refl _) (.cells #[S s] 9)
      have HB4 := Lib.hid (HB3.out.trans (hb4.mono HB3.out.size))
      have HM4 := Lib.hid (HM3.out.below (hb4.mono (by have := HBB.out; have := HZ3.out; omega)))
      have hc0 := (hb4.cell (p := ⟨w.heap.size, 0, none⟩) HZ3.out).trans HC3.out.1
      have hc1 := (hb4.cell (p := ⟨w.heap.size, 1, none⟩) HZ3.out).trans HC3.out.2.1
      have hc2 := (hb4.cell (p := ⟨w.heap.size, 2, none⟩) HZ3.out).trans HC3.out.2.2
      clear hb4
      refine Calls.mono (long1_no 24 s _ w3.heap.size 0 (by rw [World.cell?_alloc_new]; rfl) (by omega)) ?_
      rintro e w4 ⟨rfl, rfl⟩
      generalize hw4 : w3.alloc (.cells #[S s] 9) = w4 at *
      have HN := Lib.hid HM4.out.n_eq
      have HMM := Lib.hid HM4.out.m_eq
      obtain rfl : m = n := by have := HN.out; have := HMM.out; have := HO.out.tak; omega
      clear HM3 HC3
      go_wp2_with fail
      clear hw4
      go_loopg [8, 24] s.length (fun f av iv wr => ∃ k a q : Nat, k + f = s.length ∧ av = .int .i64 (a : Int) ∧ iv = .int .i64 (k : Int) ∧ Hid (wr = w4.drewN q) ∧ Hid (M.leadB 0 (s.take k) = some a))
      case atStart => exact ⟨0, 0, 0, by omega, rfl, rfl, Lib.hid rfl, Lib.hid rfl⟩
      case round =>
        obtain ⟨k, a, q, hkf, rfl, rfl, HW4, HL⟩ := hrel
        have HA : Hid (a < M.n) := Lib.hid (HO.out.leadB_lt HO.out.pos HL.out)
        have d0 : wr.cell? ⟨w.heap.size, 0, none⟩ = some (S M.sg) := by rw [HW4.out]; exact hc0
        have d1 : wr.cell? ⟨w.heap.size, 1, none⟩ = some (.slice A m c) := by rw [HW4.out]; exact hc1
        have d2 : wr.cell? ⟨w.heap.size, 2, none⟩ = some (.slice A2 m c2) := by rw [HW4.out]; exact hc2
        have HMr : Hid (MacW wr B A m A2 m M) := Lib.hid (by rw [HW4.out]; exact HM4.out.below (below_drewN (Below.refl B w4) q))
        by_cases hlt : k < s.length
        · obtain ⟨f, rfl⟩ : ∃ f, gk = f + 1 := ⟨gk - 1, by omega⟩
          have p1 : (k : Int) < (s.length : Int) := by omega
          have p2 : IntKind.i64.wrap ((k : Int) + 1) = (k : Int) + 1 := i64_in _ (by omega)
          have HIX : Hid (∀ W, Calls Tryz.prog 17 #[S M.sg, .int .u8 ((bu s k).toNat : Int)] W fun e w' => e = .returned (.int .i64 (if bu s k ∈ M.sg then (M.sg.idxOf (bu s k) : Int) else -1)) ∧ w' = W) := Lib.hid fun W => by
            have h := Tryz.strings_IndexByte ⟨M.sg.toArray⟩ ((bu s k).toNat : Int) W
            rw [show (ByteArray.mk M.sg.toArray).data.toList = M.sg by simp, show ((bu s k).toNat : Int).toNat.toUInt8 = bu s k by simp, ixB] at h
            exact h
          by_cases hm : bu s k ∈ M.sg
          · have HNX := Lib.hid (Mc.leadB_take hlt HL.out hm)
            have him : M.sg.idxOf (bu s k) < M.sg.length := List.idxOf_lt_length_iff.2 hm
            have HST := Lib.hid (HO.out.st_eq HA.out him)
            rw [if_pos hm] at HIX
            generalize M.sg.idxOf (bu s k) = ix at *
            have HIM := Lib.hid him
            obtain ⟨b1, o1, A3, m3, c3, hA, _, cr, hI⟩ := HMr.out.rows.at_ (k := a) (by have := HA.out; have := HN.out; omega)
            subst hA
            obtain rfl : m3 = M.s := hI.1.symm.trans (HO.out.row a HA.out)
            obtain ⟨b2, o2, hA3, _, ce⟩ := hI.at_ (k := ix) him
            subst hA3
            rw [HST.out] at ce
            have p3 : (a : Int) < (m : Int) := by have := HA.out; have := HN.out; omega
            have p4 : (ix : Int) < (M.s : Int) := by have : M.s = M.sg.length := rfl; omega
            have p5 : ¬ (ix : Int) < 0 := by omega
            have p6 : a < m := by omega
            have p8 : ix < M.s := him
            clear hm hc0 hc1 hc2 HL hI him
            go_wp2_with fail
            go_quiet ((go_at_call 17; exact Calls.quiet_of_same (HIX.out _)))
            go_wp2_with fail
            go_roundg f
            case measure => omega
            case rel => exact ⟨k + 1, M.st a ix, q + nq, by omega, by simp, by simp, Lib.hid (by rw [HW4.out]; simp), HNX⟩
          · have HNO : Hid (M.takesB s = false) := Lib.hid (by unfold Mc.takesB; rw [Mc.leadB_none hlt HL.out hm])
            have HB5 : Hid (Below w.heap.size w wr) := Lib.hid (by rw [HW4.out]; exact below_drewN HB4.out q)
            rw [if_neg hm] at HIX
            clear hm hc0 hc1 hc2 HL
            go_wp2_with fail
            go_quiet ((go_at_call 17; exact Calls.quiet_of_same (HIX.out _)))
            go_wp2_with fail
            go_ret2
            exact ⟨by rw [HV.out.1, HV.out.2, HNO.out]; rfl, below_drewN HB5.out _⟩
        · obtain rfl : k = s.length := by omega
          have HNO : Hid (M.takesB s = bo M.tk a) := Lib.hid (by have h := HL.out; rw [List.take_length] at h; unfold Mc.takesB; rw [h])
          have HB5 : Hid (Below w.heap.size w wr) := Lib.hid (by rw [HW4.out]; exact below_drewN HB4.out q)
          have p1 : ¬ (s.length : Int) < (s.length : Int) := by omega
          obtain ⟨b2, o2, hA2, _, ct⟩ := HMr.out.tks.at_ (k := a) (by have := HA.out; have := HN.out; omega)
          subst hA2
          have p3 : (a : Int) < (m : Int) := by have := HA.out; have := HN.out; omega
          have p6 : a < m := by omega
          clear hc0 hc1 hc2 HL
          go_wp2_with fail
          go_ret2
          exact ⟨by rw [HV.out.1, HV.out.2, HNO.out]; rfl, HB5.out⟩
  · have HV : Hid (takesV M s = false ∧ takesE M s = M.wrong) := Lib.hid ⟨by unfold takesV; rw [decide_eq_false hw]; simp, by unfold takesE; rw [if_pos hw]⟩
    have HW := Lib.hid hw
    rw [err_ne hw] at HCK
    clear hw
    go_enter Tryz.func7, Tryz.ntmps7
    go_wp2_with fail
    clear hw1 c0 c1 c2'
    refine HCK.out.mono ?_
    rintro e w3 ⟨rfl, hb3⟩
    have HB3 := Lib.hid (HB1.out.trans (hb3.mono HB1.out.size))
    clear hb3 HCK
    go_wp2_with fail
    go_ret2
    exact ⟨by rw [HV.out.1, HV.out.2, err_ne HW.out]; rfl, HB3.out⟩
end Go.Proofs.YtchhbnnpannnhaaGreatDoor
