/- The document's place and Leads. No condition. -/
import Derived.Test.YtchhbnnpannnhaaNfS
import Derived.Test.YtchhbnnpannnhaaLsA
import Derived.BigQuiet
import Derived.Deep.QuietTactic
namespace Go.Proofs.Ytchhbnnpannnhaa
open Go.RowKit IntWalk
set_option linter.unusedSimpArgs false
set_option linter.unusedVariables false
attribute [local go_sem] byte_at str_app
attribute [local go_sem ↓] Go.wp_at_zero Go.wp_at_succ

theorem same_decL (x y : UInt8) : ((x.toNat : Int) == (y.toNat : Int)) = decide (x = y) := by
  by_cases h : x = y
  · subst h; simp
  · have : ¬ x.toNat = y.toNat := fun e => h (UInt8.toNat_inj.1 e)
    simp [h]; omega
theorem idx_at : ∀ {t : List UInt8} {c : UInt8} {i : Nat}, i < t.length → bu t i = c → (∀ j, j < i → bu t j ≠ c) → t.idxOf c = i
  | [], c, i, hi, _, _ => by simp at hi
  | a :: t, c, 0, hi, he, _ => by
    have : a = c := he
    subst this; simp
  | a :: t, c, i + 1, hi, he, hn => by
    have h0 : a ≠ c := hn 0 (by omega)
    have ih := idx_at (t := t) (c := c) (i := i) (by simpa using hi) he fun j hj => hn (j + 1) (by omega)
    have hb : (a == c) = false := by simpa using h0
    rw [List.idxOf_cons, hb, ih]; rfl
def plcV (t : List UInt8) (c : UInt8) : Int := if c ∈ t then (t.idxOf c : Int) else -1
set_option maxHeartbeats 400000 in
theorem placeD_any (t : List UInt8) (c : UInt8) (w : World) (ht : t.length ≤ 1000) :
    Calls Try.prog 31 #[S t, .int .u8 (c.toNat : Int)] w fun e w' => e = .returned (.int .i64 (plcV t c)) ∧ w' = w := by
  have HV : Hid (plcV t c = if c ∈ t then (t.idxOf c : Int) else -1) := Lib.hid rfl
  generalize plcV t c = z at *
  go_enter Try.func31, Try.ntmps31
  go_wp2_with fail
  go_loopg [5] t.length (fun f iv wr => ∃ i : Nat, i + f = t.length ∧ iv = .int .i64 (i : Int) ∧ Hid (∀ j, j < i → bu t j ≠ c) ∧ wr = w)
  case atStart => exact ⟨0, by omega, rfl, Lib.hid fun j hj => absurd hj (by omega), rfl⟩
  case round =>
    obtain ⟨i, hif, rfl, HN, rfl⟩ := hrel
    by_cases hi : i < t.length
    · obtain ⟨f, rfl⟩ : ∃ f, gk = f + 1 := ⟨gk - 1, by omega⟩
      have heb := same_decL (bu t i) c
      have p1 : (i : Int) < (t.length : Int) := by omega
      have p3 : IntKind.i64.wrap ((i : Int) + 1) = (i : Int) + 1 := i64_in _ (by omega)
      by_cases he : bu t i = c
      · have HA : Hid (z = (i : Int)) := Lib.hid (by rw [HV.out, if_pos (he ▸ bu_mem hi), idx_at hi he HN.out])
        rw [decide_eq_true he] at heb
        clear he
        go_wp2_with fail
        go_ret
        exact ⟨ret_int HA.out.symm, rfl⟩
      · have HS : Hid (∀ j, j < i + 1 → bu t j ≠ c) := Lib.hid fun j hj => by
          rcases Nat.lt_or_ge j i with hl | hl
          · exact HN.out j hl
          · obtain rfl : j = i := by omega
            exact he
        rw [decide_eq_false he] at heb
        clear he
        go_wp2_with fail
        go_roundg f
        case measure => omega
        case rel => exact ⟨i + 1, by omega, by simp, HS, rfl⟩
    · obtain rfl : i = t.length := by omega
      have HA : Hid (z = -1) := Lib.hid (by
        rw [HV.out, if_neg]
        intro hm
        obtain ⟨j, hj, e⟩ := List.getElem_of_mem hm
        exact HN.out j hj (by rw [bu_eq hj]; exact e))
      go_wp2_with fail
      go_ret
      exact ⟨ret_int HA.out.symm, rfl⟩

theorem leadB_takeA {M : Mc} {s : List UInt8} {b k a : Nat} (hk : k < s.length) (h : M.leadB b (s.take k) = some a) (hm : bu s k ∈ M.sg) : M.leadB b (s.take (k + 1)) = some (M.st a (M.sg.idxOf (bu s k))) := by
  rw [take_succ_bu hk, Mc.leadB_app, h]
  show M.leadB a [bu s k] = _
  unfold Mc.leadB; rw [if_pos hm]; try rfl
theorem leadB_noneA {M : Mc} {s : List UInt8} {b k a : Nat} (hk : k < s.length) (h : M.leadB b (s.take k) = some a) (hm : bu s k ∉ M.sg) : M.leadB b s = none := by
  have e : s = s.take k ++ (bu s k :: s.drop (k + 1)) := by
    have h1 : s.drop k = bu s k :: s.drop (k + 1) := by rw [List.drop_eq_getElem_cons hk]; unfold bu; rw [List.getElem?_eq_getElem hk]; rfl
    rw [← h1, List.take_append_drop]
  rw [e, Mc.leadB_app, h]
  show M.leadB a (bu s k :: _) = _
  rw [Mc.leadB, if_neg hm]
/-- What Leads answers. -/
def ledV (M : Mc) (b : Nat) (s : List UInt8) : Int := match M.leadB b s with
  | some j => (j : Int)
  | none => -1
set_option maxRecDepth 100000 in
set_option maxHeartbeats 4000000 in
theorem leads_any (M : Mc) (hO : M.Ok) (A A2 : Option Addr) (n c m c2 B b : Nat) (s : List UInt8) (w : World) (hM : MacW w B A n A2 m M) (hB : B ≤ w.heap.size) (hb : b < M.n) (hs : s.length ≤ 100000) :
    Calls Try.prog 15 #[mcv M.sg A n c A2 m c2, .int .i64 (b : Int), S s] w fun e w' => e = .returned (.int .i64 (ledV M b s)) ∧ Below w.heap.size w w' := by
  obtain ⟨c0, c1, c2'⟩ := mac_cells w M.sg A n c A2 m c2 39
  generalize hw1 : w.alloc (.cells #[S M.sg, .slice A n c, .slice A2 m c2] 39) = w1 at *
  have hb1 : Below w.heap.size w w1 := by rw [← hw1]; exact (Below.refl _ w).alloc (Nat.le_refl _) _
  have HB1 := Lib.hid hb1
  have HM1 := Lib.hid (hM.below (hb1.mono hB))
  have HO := Lib.hid hO
  have HN := Lib.hid HM1.out.n_eq
  have hs12 : M.sg.length ≤ 1000 := by have : M.s = M.sg.length := rfl; have := hO.few; omega
  have HBN := Lib.hid hb
  clear hb1 hM hB hO hb
  go_enter Try.func15, Try.ntmps15
  go_wp2_with fail
  clear hw1
  go_loopg [1, 7] s.length (fun f av iv wr => ∃ k a q : Nat, k + f = s.length ∧ av = .int .i64 (a : Int) ∧ iv = .int .i64 (k : Int) ∧ Hid (wr = w1.drewN q) ∧ Hid (M.leadB b (s.take k) = some a))
  case atStart => exact ⟨0, b, 0, by omega, rfl, rfl, Lib.hid rfl, Lib.hid rfl⟩
  case round =>
    obtain ⟨k, a, q, hkf, rfl, rfl, HW4, HL⟩ := hrel
    have HA : Hid (a < M.n) := Lib.hid (HO.out.leadB_lt HBN.out HL.out)
    have d0 : wr.cell? ⟨w.heap.size, 0, none⟩ = some (S M.sg) := by rw [HW4.out]; exact c0
    have d1 : wr.cell? ⟨w.heap.size, 1, none⟩ = some (.slice A n c) := by rw [HW4.out]; exact c1
    have HMr : Hid (MacW wr B A n A2 m M) := Lib.hid (by rw [HW4.out]; exact HM1.out.below (below_drewN (Below.refl B w1) q))
    have p0 : (0 : Int) ≤ (a : Int) := by omega
    by_cases hlt : k < s.length
    · obtain ⟨f, rfl⟩ : ∃ f, gk = f + 1 := ⟨gk - 1, by omega⟩
      have p1 : (k : Int) < (s.length : Int) := by omega
      have p2 : IntKind.i64.wrap ((k : Int) + 1) = (k : Int) + 1 := i64_in _ (by omega)
      have HIX := Lib.hid (fun W => placeD_any M.sg (bu s k) W hs12)
      by_cases hm : bu s k ∈ M.sg
      · have HNX := Lib.hid (leadB_takeA hlt HL.out hm)
        have him : M.sg.idxOf (bu s k) < M.sg.length := List.idxOf_lt_length_iff.2 hm
        have HST := Lib.hid (HO.out.st_eq HA.out him)
        have hpv : plcV M.sg (bu s k) = (M.sg.idxOf (bu s k) : Int) := by unfold plcV; rw [if_pos hm]
        rw [hpv] at HIX
        generalize M.sg.idxOf (bu s k) = ix at *
        obtain ⟨b1, o1, A3, m3, c3, hA, _, cr, hI⟩ := HMr.out.rows.at_ (k := a) (by have := HA.out; have := HN.out; omega)
        subst hA
        obtain rfl : m3 = M.s := hI.1.symm.trans (HO.out.row a HA.out)
        obtain ⟨b2, o2, hA3, _, ce⟩ := hI.at_ (k := ix) him
        subst hA3
        rw [HST.out] at ce
        have p3 : (a : Int) < (n : Int) := by have := HA.out; have := HN.out; omega
        have p4 : (ix : Int) < (M.s : Int) := by have : M.s = M.sg.length := rfl; omega
        have p5 : ¬ (ix : Int) < 0 := by omega
        have p6 : a < n := by omega
        have p8 : ix < M.s := him
        clear hm c0 c1 c2' HL hI him hpv
        go_wp2_with fail
        go_quiet ((go_at_call 31; exact Calls.quiet_of_same (HIX.out _)))
        go_wp2_with fail
        go_roundg f
        case measure => omega
        case rel => exact ⟨k + 1, M.st a ix, q + nq, by omega, by simp, by simp, Lib.hid (by rw [HW4.out]; simp), HNX⟩
      · have HNO : Hid (ledV M b s = -1) := Lib.hid (by unfold ledV; rw [leadB_noneA hlt HL.out hm])
        have HB5 : Hid (Below w.heap.size w wr) := Lib.hid (by rw [HW4.out]; exact below_drewN HB1.out q)
        have hpv : plcV M.sg (bu s k) = -1 := by unfold plcV; rw [if_neg hm]
        rw [hpv] at HIX
        clear hm c0 c1 c2' HL hpv
        go_wp2_with fail
        go_quiet ((go_at_call 31; exact Calls.quiet_of_same (HIX.out _)))
        go_wp2_with fail
        go_ret
        exact ⟨ret_int HNO.out.symm, below_drewN HB5.out _⟩
    · obtain rfl : k = s.length := by omega
      have HNO : Hid (ledV M b s = (a : Int)) := Lib.hid (by have h := HL.out; rw [List.take_length] at h; unfold ledV; rw [h])
      have HB5 : Hid (Below w.heap.size w wr) := Lib.hid (by rw [HW4.out]; exact below_drewN HB1.out q)
      have p1 : ¬ (s.length : Int) < (s.length : Int) := by omega
      clear c0 c1 c2' HL
      go_wp2_with fail
      go_ret
      exact ⟨ret_int HNO.out.symm, HB5.out⟩
end Go.Proofs.Ytchhbnnpannnhaa
