/- Machines in memory: a text, rows of numbers, a row of truths; and package dfa's Check walked. No condition. -/
import Derived.Test.YtchhbnnpannnhaaWords
import Derived.Test.YtchhbnnpannnhaaRegW
import Derived.Test.YtchhbnnpannnhaaLsM
import Derived.IntWalk
import Derived.Laws.IdiomStrings
import Derived.Deep.RegionWith
import Derived.Deep.DrawnRows
import Derived.Lib.SmallJoins
import Derived.StillTailTactics
namespace Go.Proofs.Ytchhbnnpannnhaa
open Go.RowKit IntWalk
attribute [local go_sem] byte_at str_app
attribute [local go_sem ↓] Go.wp_at_zero Go.wp_at_succ


/-- A slice that reads as rows of numbers, in blocks below B. -/
def Rws (w : World) (B : Nat) (A : Option Addr) (n : Nat) (L : List (List Int)) : Prop :=
  L.length = n ∧ (0 < n → ∃ b off, A = some ⟨b, off, none⟩ ∧ b < B ∧ ∀ j, j < n → ∃ a m c, w.cell? ⟨b, off + j, none⟩ = some (.slice a m c) ∧ Ints w B a m (ro L j))
/-- A slice that reads as a row of truths. -/
def Bls (w : World) (B : Nat) (A : Option Addr) (n : Nat) (L : List Bool) : Prop :=
  L.length = n ∧ (0 < n → ∃ b off, A = some ⟨b, off, none⟩ ∧ b < B ∧ ∀ j, j < n → w.cell? ⟨b, off + j, none⟩ = some (.bool (bo L j)))
section
variable {w w' : World} {B B' n : Nat} {A : Option Addr} {L : List (List Int)} {T : List Bool}
theorem Rws.at_ (h : Rws w B A n L) {k : Nat} (hk : k < n) : ∃ b off a m c, A = some ⟨b, off, none⟩ ∧ b < B ∧ w.cell? ⟨b, off + k, none⟩ = some (.slice a m c) ∧ Ints w B a m (ro L k) := by
  obtain ⟨b, off, e, hb, hc⟩ := h.2 (by omega)
  obtain ⟨a, m, c, h1, h2⟩ := hc k hk
  exact ⟨b, off, a, m, c, e, hb, h1, h2⟩
theorem Bls.at_ (h : Bls w B A n T) {k : Nat} (hk : k < n) : ∃ b off, A = some ⟨b, off, none⟩ ∧ b < B ∧ w.cell? ⟨b, off + k, none⟩ = some (.bool (bo T k)) := by
  obtain ⟨b, off, e, hb, hc⟩ := h.2 (by omega)
  exact ⟨b, off, e, hb, hc k hk⟩
theorem Rws.keep (h : Rws w B A n L) (hk : ∀ p : Addr, p.block < B → w'.cell? p = w.cell? p) : Rws w' B A n L :=
  ⟨h.1, fun hn => by
    obtain ⟨b, off, e, hb, hc⟩ := h.2 hn
    refine ⟨b, off, e, hb, fun j hj => ?_⟩
    obtain ⟨a, m, c, h1, h2⟩ := hc j hj
    exact ⟨a, m, c, (hk _ hb).trans h1, h2.keep hk⟩⟩
theorem Rws.more (h : Rws w B A n L) (hB : B ≤ B') : Rws w B' A n L :=
  ⟨h.1, fun hn => by
    obtain ⟨b, off, e, hb, hc⟩ := h.2 hn
    refine ⟨b, off, e, by omega, fun j hj => ?_⟩
    obtain ⟨a, m, c, h1, h2⟩ := hc j hj
    exact ⟨a, m, c, h1, h2.more hB⟩⟩
theorem Rws.below (h : Rws w B A n L) (hb : Below B w w') : Rws w' B A n L := h.keep fun _ hp => hb.cell hp
theorem Rws.alloc (h : Rws w B A n L) (hB : B ≤ w.heap.size) (o : Obj) : Rws (w.alloc o) B A n L := h.keep fun p hp => World.cell?_alloc_lt w o p (by omega)
theorem Bls.keep (h : Bls w B A n T) (hk : ∀ p : Addr, p.block < B → w'.cell? p = w.cell? p) : Bls w' B A n T :=
  ⟨h.1, fun hn => by
    obtain ⟨b, off, e, hb, hc⟩ := h.2 hn
    exact ⟨b, off, e, hb, fun j hj => (hk _ hb).trans (hc j hj)⟩⟩
theorem Bls.more (h : Bls w B A n T) (hB : B ≤ B') : Bls w B' A n T :=
  ⟨h.1, fun hn => by
    obtain ⟨b, off, e, hb, hc⟩ := h.2 hn
    exact ⟨b, off, e, by omega, hc⟩⟩
theorem Bls.below (h : Bls w B A n T) (hb : Below B w w') : Bls w' B A n T := h.keep fun _ hp => hb.cell hp
theorem Bls.alloc (h : Bls w B A n T) (hB : B ≤ w.heap.size) (o : Obj) : Bls (w.alloc o) B A n T := h.keep fun p hp => World.cell?_alloc_lt w o p (by omega)
end
/-- A machine's value, and what it reads as. -/
abbrev mcv (sg : List UInt8) (A : Option Addr) (n c : Nat) (A2 : Option Addr) (m c2 : Nat) : Value := .agg #[S sg, .slice A n c, .slice A2 m c2]
structure MacW (w : World) (B : Nat) (A : Option Addr) (n : Nat) (A2 : Option Addr) (m : Nat) (M : Mc) : Prop where
  rows : Rws w B A n M.nx
  tks : Bls w B A2 m M.tk
theorem MacW.below {w w' : World} {B n m : Nat} {A A2 : Option Addr} {M : Mc} (h : MacW w B A n A2 m M) (hb : Below B w w') : MacW w' B A n A2 m M := ⟨h.rows.below hb, h.tks.below hb⟩
theorem MacW.more {w : World} {B B' n m : Nat} {A A2 : Option Addr} {M : Mc} (h : MacW w B A n A2 m M) (hB : B ≤ B') : MacW w B' A n A2 m M := ⟨h.rows.more hB, h.tks.more hB⟩
theorem MacW.n_eq {w : World} {B n m : Nat} {A A2 : Option Addr} {M : Mc} (h : MacW w B A n A2 m M) : M.n = n := h.rows.1
theorem MacW.m_eq {w : World} {B n m : Nat} {A A2 : Option Addr} {M : Mc} (h : MacW w B A n A2 m M) : M.tk.length = m := h.tks.1

theorem within_any (n lo hi : Int) (w : World) :
    Calls Try.prog 44 #[.int .i64 n, .int .i64 lo, .int .i64 hi] w fun e w' => e = .returned (.bool (decide (lo ≤ n ∧ n ≤ hi))) ∧ w = w' := by
  by_cases h1 : lo ≤ n
  · by_cases h2 : n ≤ hi
    all_goals
      go_enter Try.func44, Try.ntmps44
      go_wp2
      go_ret
      exact ⟨by simp [h1, h2], rfl⟩
  · go_enter Try.func44, Try.ntmps44
    go_wp2
    go_ret
    exact ⟨ret_bool (by simp [show ¬ lo ≤ n from by omega]), rfl⟩
theorem mac_cells (w : World) (sg : List UInt8) (A : Option Addr) (n c : Nat) (A2 : Option Addr) (m c2 : Nat) (t : TypeId) : (w.alloc (.cells #[S sg, .slice A n c, .slice A2 m c2] t)).cell? ⟨w.heap.size, 0, none⟩ = some (S sg) ∧ (w.alloc (.cells #[S sg, .slice A n c, .slice A2 m c2] t)).cell? ⟨w.heap.size, 1, none⟩ = some (.slice A n c) ∧ (w.alloc (.cells #[S sg, .slice A n c, .slice A2 m c2] t)).cell? ⟨w.heap.size, 2, none⟩ = some (.slice A2 m c2) :=
  ⟨cell_of_row _ _ 0 _ t (0, 0) (heap_alloc_new w _), cell_of_row _ _ 1 _ t (0, 0) (heap_alloc_new w _), cell_of_row _ _ 2 _ t (0, 0) (heap_alloc_new w _)⟩
theorem wrong_5 {M : Mc} (h : M.n = 0) : M.wrong = 5 := by unfold Mc.wrong; rw [if_pos h]
theorem wrong_4 {M : Mc} (h0 : M.n ≠ 0) (h : 1000 < M.n ∨ 12 < M.s) : M.wrong = 4 := by unfold Mc.wrong; rw [if_neg h0, if_pos h]
theorem wrong_3 {M : Mc} (h0 : M.n ≠ 0) (h : ¬ (1000 < M.n ∨ 12 < M.s)) (h3 : M.tk.length ≠ M.n) : M.wrong = 3 := by unfold Mc.wrong; rw [if_neg h0, if_neg h, if_pos h3]
theorem wrong_6 {M : Mc} (h0 : M.n ≠ 0) (h : ¬ (1000 < M.n ∨ 12 < M.s)) (h3 : ¬ M.tk.length ≠ M.n) (h4 : ¬ riseB M.sg = true) : M.wrong = 6 := by unfold Mc.wrong; rw [if_neg h0, if_neg h, if_neg h3, if_neg h4]
theorem wrong_r {M : Mc} (h0 : M.n ≠ 0) (h : ¬ (1000 < M.n ∨ 12 < M.s)) (h3 : ¬ M.tk.length ≠ M.n) (h4 : riseB M.sg = true) : M.wrong = rowsEM M.n M.s M.nx := by unfold Mc.wrong; rw [if_neg h0, if_neg h, if_neg h3, if_pos h4]
theorem rowsE_cons {n s : Nat} {r : List Int} {l : List (List Int)} : rowsEM n s (r :: l) = if rowEM n s r = 0 then rowsEM n s l else rowEM n s r := rfl

set_option maxRecDepth 100000 in
set_option maxHeartbeats 4000000 in
theorem mcheck_any (M : Mc) (A A2 : Option Addr) (n c m c2 B : Nat) (w : World) (hM : MacW w B A n A2 m M) (hB : B ≤ w.heap.size) :
    Calls Try.prog 28 #[mcv M.sg A n c A2 m c2] w fun e w' => e = .returned (errV M.wrong) ∧ Below w.heap.size w w' := by
  have hn := hM.n_eq
  have hm := hM.m_eq
  obtain ⟨c0, c1, c2'⟩ := mac_cells w M.sg A n c A2 m c2 39
  have HB := Lib.hid ((Below.refl w.heap.size w).alloc (Nat.le_refl _) (.cells #[S M.sg, .slice A n c, .slice A2 m c2] 39))
  have HR := Lib.hid (hM.rows.alloc hB (.cells #[S M.sg, .slice A n c, .slice A2 m c2] 39))
  clear hM hB
  by_cases h0 : M.n = 0
  · have HE := Lib.hid (wrong_5 h0)
    obtain rfl : n = 0 := by omega
    clear h0 HR hn hm
    go_enter Try.func28, Try.ntmps28
    go_wp2_with fail
    go_ret
    exact ⟨by rw [HE.out]; rfl, HB.out⟩
  by_cases h1 : 1000 < M.n ∨ 12 < M.s
  · have HE := Lib.hid (wrong_4 h0 h1)
    have e0 : (n : Int) ≠ 0 := by omega
    have e0' : n ≠ 0 := by omega
    by_cases h2 : 1000 < n
    · have e1 : (1000 : Int) < (n : Int) := by omega
      clear h0 h1 hn hm HR
      go_enter Try.func28, Try.ntmps28
      go_wp2_with fail
      go_ret
      exact ⟨by rw [HE.out]; rfl, HB.out⟩
    · have e1 : ¬ (1000 : Int) < (n : Int) := by omega
      have e2 : (12 : Int) < (M.sg.length : Int) := by have : M.s = M.sg.length := rfl; omega
      clear h0 h1 hn hm HR
      go_enter Try.func28, Try.ntmps28
      go_wp2_with fail
      go_ret
      exact ⟨by rw [HE.out]; rfl, HB.out⟩
  by_cases h3 : M.tk.length ≠ M.n
  · have HE := Lib.hid (wrong_3 h0 h1 h3)
    have q0 : (n : Int) ≠ 0 := by omega
    have q0' : n ≠ 0 := by omega
    have q1 : ¬ (1000 : Int) < (n : Int) := by omega
    have q2 : ¬ (12 : Int) < (M.sg.length : Int) := by have : M.s = M.sg.length := rfl; omega
    have q3 : ((m : Int) != (n : Int)) = true := by simp; omega
    clear h0 h1 h3 hn hm HR
    go_enter Try.func28, Try.ntmps28
    go_wp2_with fail
    go_ret
    exact ⟨by rw [HE.out]; rfl, HB.out⟩
  have hmn : m = n := by omega
  subst hmn
  have q0 : (m : Int) ≠ 0 := by omega
  have q0' : m ≠ 0 := by omega
  have q1 : ¬ (1000 : Int) < (m : Int) := by omega
  have q2 : ¬ (12 : Int) < (M.sg.length : Int) := by have : M.s = M.sg.length := rfl; omega
  have q3 : ((m : Int) != (m : Int)) = false := by simp
  have hs12 : M.sg.length ≤ 12 := by have : M.s = M.sg.length := rfl; omega
  have hm1000 : m ≤ 1000 := by omega
  have H6 := Lib.hid (fun h4 => wrong_6 (M := M) h0 h1 h3 h4)
  have HRS := Lib.hid (fun h4 => wrong_r (M := M) h0 h1 h3 h4)
  have HN := Lib.hid hn
  clear h0 h1 h3 hn hm
  generalize hw1 : w.alloc (.cells #[S M.sg, .slice A m c, .slice A2 m c2] 39) = w1 at *
  go_enter Try.func28, Try.ntmps28
  go_wp2_with fail
  go_loopg [3] M.sg.length (fun f iv wr => ∃ k q : Nat, k + f = M.sg.length ∧ iv = .int .i64 ((k : Int) + 1) ∧ wr = w1.drewN q ∧ Hid (∀ i, i < k → bu M.sg i < bu M.sg (i + 1)))
  case atStart => exact ⟨0, 0, by omega, rfl, rfl, Lib.hid fun i h => absurd h (by omega)⟩
  case round =>
    obtain ⟨k, q, hkf, rfl, rfl, HP⟩ := hrel
    by_cases hlt : k + 1 < M.sg.length
    · obtain ⟨f, rfl⟩ : ∃ f, gk = f + 1 := ⟨gk - 1, by omega⟩
      have p1 : (k : Int) + 1 < (M.sg.length : Int) := by omega
      have p2 : IntKind.i64.wrap ((k : Int) + 1 - 1) = (k : Int) := by rw [i64_in _ (by omega)]; omega
      have p3 : IntKind.i64.wrap ((k : Int) + 1 + 1) = (k : Int) + 1 + 1 := i64_in _ (by omega)
      have p4 : (0 : Int) ≤ (k : Int) + 1 := by omega
      have p5 : ((k : Int) + 1).toNat = k + 1 := by omega
      have p6 : (k : Int) < (M.sg.length : Int) := by omega
      have p7 : k < M.sg.length := by omega
      by_cases hb : bu M.sg k < bu M.sg (k + 1)
      · have q4 : ¬ ((bu M.sg (k + 1)).toNat : Int) ≤ ((bu M.sg k).toNat : Int) := by rw [UInt8.lt_iff_toNat_lt] at hb; omega
        have HP2 : Hid (∀ i, i < k + 1 → bu M.sg i < bu M.sg (i + 1)) := Lib.hid fun i hi => by
          rcases Nat.lt_or_ge i k with hl | hl
          · exact HP.out i hl
          · obtain rfl : i = k := by omega
            exact hb
        have q5 : ¬ (bu M.sg (k + 1)).toNat ≤ (bu M.sg k).toNat := by omega
        clear hb HP
        go_wp2_with fail
        go_quiet (fail)
        go_wp2_with fail
        go_roundg f
        case measure => omega
        case rel => exact ⟨k + 1, q + nq, by omega, by simp, by simp, HP2⟩
      · have q4 : ((bu M.sg (k + 1)).toNat : Int) ≤ ((bu M.sg k).toNat : Int) := by rw [UInt8.lt_iff_toNat_lt] at hb; omega
        have q5 : (bu M.sg (k + 1)).toNat ≤ (bu M.sg k).toNat := by omega
        have HE := Lib.hid (H6.out (fun h => hb ((riseB_iff _).1 h k hlt)))
        clear hb HP H6 HRS
        go_wp2_with fail
        go_quiet (fail)
        go_wp2_with fail
        go_ret
        exact ⟨by rw [HE.out]; rfl, below_drewN HB.out _⟩
    · have HE := Lib.hid (HRS.out ((riseB_iff _).2 fun i hi => HP.out i (by have : M.s = M.sg.length := rfl; omega)))
      have p1 : ¬ (k : Int) + 1 < (M.sg.length : Int) := by omega
      clear HP H6 HRS hkf
      go_wp2_with fail
      go_loopg [53] m (fun f iv wr => ∃ j : Nat, j + f = m ∧ iv = .int .i64 (j : Int) ∧ wr = w1.drewN q ∧ Hid (rowsEM M.n M.s (M.nx.drop j) = M.wrong))
      case atStart => exact ⟨0, by omega, rfl, rfl, Lib.hid HE.out.symm⟩
      case round =>
        clear HE
        obtain ⟨j, hjf, rfl, rfl, HE⟩ := hrel
        by_cases hltj : j < m
        · obtain ⟨f, rfl⟩ : ∃ f, gk = f + 1 := ⟨gk - 1, by omega⟩
          obtain ⟨b, off, a, mm, cc, rfl, _, cr, hI⟩ := HR.out.at_ hltj
          have HI := Lib.hid hI
          have HD := Lib.hid (drop_ro (l := M.nx) (k := j) (by have := HR.out.1; omega))
          have p2 : (j : Int) < (m : Int) := by omega
          have hmm := hI.1
          have HLN := Lib.hid hmm
          generalize ro M.nx j = row at *
          clear hI
          by_cases hs : mm = M.sg.length
          · subst hs
            have q4 : ((M.sg.length : Int) != (M.sg.length : Int)) = false := by simp
            have p8 : IntKind.i64.wrap ((m : Int) - 1) = (m : Int) - 1 := i64_in _ (by omega)
            have p9 : IntKind.i64.wrap ((j : Int) + 1) = (j : Int) + 1 := i64_in _ (by omega)
            clear hmm
            go_wp2_with fail
            go_loopg [66] M.sg.length (fun f2 iv wr => ∃ d : Nat, d + f2 = M.sg.length ∧ iv = .int .i64 (d : Int) ∧ wr = w1.drewN q ∧ Hid (∀ i, i < d → 0 ≤ gi row i ∧ gi row i < m))
            case atStart => exact ⟨0, by omega, rfl, rfl, Lib.hid fun i h => absurd h (by omega)⟩
            case round =>
              obtain ⟨d, hdf, rfl, rfl, HP⟩ := hrel
              by_cases hltd : d < M.sg.length
              · obtain ⟨f2, rfl⟩ : ∃ f, gk = f + 1 := ⟨gk - 1, by omega⟩
                obtain ⟨b2, off2, rfl, _, ce⟩ := HI.out.at_ hltd
                have p10 : (d : Int) < (M.sg.length : Int) := by omega
                have p11 : IntKind.i64.wrap ((d : Int) + 1) = (d : Int) + 1 := i64_in _ (by omega)
                by_cases hv : 0 ≤ gi row d ∧ gi row d ≤ (m : Int) - 1
                · have HP2 : Hid (∀ i, i < d + 1 → 0 ≤ gi row i ∧ gi row i < m) := Lib.hid fun i hi => by
                    rcases Nat.lt_or_ge i d with hl | hl
                    · exact HP.out i hl
                    · obtain rfl : i = d := by omega
                      omega
                  have HW := Lib.hid (decide_eq_true hv)
                  generalize gi row d = v at ce HW
                  clear hv HP
                  go_wp2_with fail
                  refine (within_any v 0 ((m : Int) - 1) _).mono ?_
                  rintro e w' ⟨rfl, rfl⟩
                  rw [HW.out]
                  go_wp2_with fail
                  go_roundg f2
                  case measure => omega
                  case rel => exact ⟨d + 1, by omega, by simp, rfl, HP2⟩
                · have HE2 : Hid (M.wrong = 1) := Lib.hid (by
                    have hE := HE.out
                    rw [HD.out, rowsE_cons] at hE
                    have h1 : rowEM M.n M.s row = 1 := by
                      unfold rowEM
                      rw [if_pos HLN.out, if_neg]
                      intro h
                      have := rangeB_iff.1 h d (by rw [HLN.out]; exact hltd)
                      have := HN.out
                      exact hv (by omega)
                    rw [h1, if_neg (by decide)] at hE
                    exact hE.symm)
                  have HW := Lib.hid (decide_eq_false hv)
                  generalize gi row d = v at ce HW
                  clear hv HP HE
                  go_wp2_with fail
                  refine (within_any v 0 ((m : Int) - 1) _).mono ?_
                  rintro e w' ⟨rfl, rfl⟩
                  rw [HW.out]
                  go_wp2_with fail
                  go_ret
                  exact ⟨by rw [HE2.out]; rfl, below_drewN HB.out _⟩
              · have HE2 : Hid (rowsEM M.n M.s (M.nx.drop (j + 1)) = M.wrong) := Lib.hid (by
                  have hE := HE.out
                  rw [HD.out, rowsE_cons] at hE
                  have h1 : rowEM M.n M.s row = 0 := rowEM_zero.2 ⟨HLN.out, rangeB_iff.2 fun i hi => by have := HP.out i (by have := HLN.out; omega); have := HN.out; omega⟩
                  rw [if_pos h1] at hE
                  exact hE)
                have p10 : ¬ (d : Int) < (M.sg.length : Int) := by omega
                clear HP HE
                go_wp2_with fail
                go_roundg f
                case measure => omega
                case rel => exact ⟨j + 1, by omega, by simp, rfl, HE2⟩
          · have HE2 : Hid (M.wrong = 3) := Lib.hid (by
              have hE := HE.out
              rw [HD.out, rowsE_cons] at hE
              have h1 : rowEM M.n M.s row = 3 := by
                unfold rowEM
                rw [if_neg (by rw [HLN.out]; exact hs)]
              rw [h1, if_neg (by decide)] at hE
              exact hE.symm)
            have q4 : ((mm : Int) != (M.sg.length : Int)) = true := by simp; omega
            clear HE hs hmm
            go_wp2_with fail
            go_ret
            exact ⟨by rw [HE2.out]; rfl, below_drewN HB.out _⟩
        · have HE2 : Hid (M.wrong = 0) := Lib.hid (by
            have hE := HE.out
            rw [List.drop_of_length_le (by have := HR.out.1; omega)] at hE
            exact hE.symm)
          have p2 : ¬ (j : Int) < (m : Int) := by omega
          clear HE
          go_wp2_with fail
          go_ret
          exact ⟨by rw [HE2.out]; rfl, below_drewN HB.out _⟩
end Go.Proofs.Ytchhbnnpannnhaa
