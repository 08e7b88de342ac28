/- Texts joined, each with its own conditions. (1) The document's Signs: its walk. No condition. (2) The laws RegexPattern, RegexNull: their walks. Condition: errors.errorType. (3) The law RegexSays: its walk. Condition: errors.errorType. (4) The law NfaSays: its walk. Condition: errors.errorType. (5) The document's machine of a pattern, in plain Lean: a state is a row of places; the document's sameInts. No condition. (6) A machine that is made row by row: its rows (some may be nil), its truths, its struct. No condition. (7) A number more in the row that is being made. No condition. -/
import Derived.Test.YtchhbnnpannnhaaGreatDoorMg8
import Derived.Test.YtchhbnnpannnhaaGreatDoorMg6
import Derived.Test.YtchhbnnpannnhaaGreatDoorMg13
import Derived.Test.YtchhbnnpannnhaaGreatDoorNfPl
import Derived.Test.YtchhbnnpannnhaaGreatDoorMg10
namespace Go.Proofs.YtchhbnnpannnhaaGreatDoor
open Go.RowKit IntWalk
attribute [local go_sem] byte_at str_app

/-- The first j letters' part of the signs. -/
def sgsP (l : List UInt8) (j : Nat) : List UInt8 := (List.range j).filterMap fun i => if UInt8.ofNat (97 + i) ∈ l then some (UInt8.ofNat (97 + i)) else none
theorem sgsP_step (l : List UInt8) (j : Nat) : sgsP l (j + 1) = if UInt8.ofNat (97 + j) ∈ l then sgsP l j ++ [UInt8.ofNat (97 + j)] else sgsP l j := by
  unfold sgsP
  rw [List.range_succ, List.filterMap_append]
  by_cases h : UInt8.ofNat (97 + j) ∈ l
  · rw [if_pos h]; congr 1; rw [List.filterMap_cons]; simp only [if_pos h]; rfl
  · rw [if_neg h]; rw [List.filterMap_cons]; simp only [if_neg h]; rw [List.filterMap_nil, List.append_nil]
theorem sgsP_len (l : List UInt8) (j : Nat) : (sgsP l j).length ≤ j := by
  unfold sgsP
  refine Nat.le_trans (List.length_filterMap_le _ _) ?_
  simp
theorem wrap_b (x : UInt8) : wrap64 (x.toNat : Int) = (x.toNat : Int) := by have := UInt8.toNat_lt x; unfold wrap64; omega
def hasB (s : List UInt8) (c i : Nat) : Bool := (s.take i).any fun x => x.toNat == c
theorem hasB_step {s : List UInt8} {i : Nat} (c : Nat) (h : i < s.length) : hasB s c (i + 1) = (hasB s c i || (bu s i).toNat == c) := by
  unfold hasB
  rw [take_succ_bu h, List.any_append]
  simp
theorem hasB_all (s : List UInt8) (j : Nat) (hj : j < 26) : hasB s (97 + j) s.length = true ↔ UInt8.ofNat (97 + j) ∈ s := by
  unfold hasB
  rw [List.take_length, List.any_eq_true]
  have e : (UInt8.ofNat (97 + j)).toNat = 97 + j := by simp; omega
  constructor
  · rintro ⟨x, hx, h⟩
    have h : x.toNat = 97 + j := by simpa using h
    have : x = UInt8.ofNat (97 + j) := UInt8.toNat_inj.1 (by rw [h, e])
    rw [← this]; exact hx
  · intro h
    exact ⟨_, h, by simpa using e⟩
set_option maxRecDepth 100000 in
set_option maxHeartbeats 2000000 in
theorem signsR_any (s : List UInt8) (w : World) (hl : s.length ≤ 1000) :
    Calls Tryz.prog 22 #[S s] w fun e w' => e = .returned (S (sgs s)) ∧ Below w.heap.size w w' := by
  have HR : Hid (sgs s = sgsP s 26) := Lib.hid rfl
  generalize sgs s = R at *
  go_enter Tryz.func22, Tryz.ntmps22
  go_wp2_with fail
  go_loopg [3, 4] 26 (fun f ov cv wr => ∃ (j : Nat), j + f = 26 ∧ cv = .int .i64 ((97 + j : Nat) : Int) ∧ ov = S (sgsP s j) ∧ Hid (Below w.heap.size w wr))
  case atStart => exact ⟨0, by omega, rfl, rfl, Lib.hid (Below.refl _ _)⟩
  case round =>
    obtain ⟨j, hj, rfl, rfl, HB⟩ := hrel
    by_cases hlt : j < 26
    rotate_left
    · obtain rfl : j = 26 := by omega
      rw [← HR.out]
      have p1 : ¬ ((97 + 26 : Nat) : Int) < 123 := by decide
      go_wp2_with fail
      go_ret
      exact ⟨rfl, HB.out⟩
    obtain ⟨f, rfl⟩ : ∃ f, gk = f + 1 := ⟨gk - 1, by omega⟩
    have hst := sgsP_step s j
    have hsl := sgsP_len s j
    have hall := hasB_all s j hlt
    have p1 : ((97 + j : Nat) : Int) < 123 := by omega
    have p1' : (97 : Int) + (j : Int) < 123 := by omega
    have p3 : IntKind.i64.wrap (((97 + j : Nat) : Int) + 1) = ((97 + (j + 1) : Nat) : Int) := by rw [i64_in _ (by omega)]; omega
    have p3' : IntKind.i64.wrap ((97 : Int) + (j : Int) + 1) = ((97 + (j + 1) : Nat) : Int) := by rw [i64_in _ (by omega)]; omega
    have p5 : (UInt8.ofNat (97 + j)).toNat = 97 + j := by simp; omega
    obtain ⟨C, hC⟩ : ∃ C : Nat, C = 97 + j := ⟨_, rfl⟩
    rw [← hC] at p1 p3 p5 hall hst ⊢
    have p4 : IntKind.u8.wrap (C : Int) = ((UInt8.ofNat C).toNat : Int) := by rw [p5]; unfold IntKind.wrap; simp [IntKind.bits]; omega
    generalize hcb : UInt8.ofNat C = cb at *
    generalize sgsP s j = o at *
    have p7 : ¬ 9223372036854775807 < o.length + 1 := by omega
    have HST := Lib.hid hst; have HAL := Lib.hid hall; have HC := Lib.hid hC; have H3 := Lib.hid p3
    clear hst hall hC p5 hcb p1' p3'
    go_wp2_with fail
    go_loopg [5, 6] s.length (fun f bv iv wr' => ∃ (i : Nat) (b : Bool), i + f = s.length ∧ iv = .int .i64 (i : Int) ∧ bv = .bool b ∧ Hid (b = hasB s C i) ∧ wr' = wr)
    case atStart => exact ⟨0, false, by omega, rfl, rfl, Lib.hid rfl, rfl⟩
    case round =>
      obtain ⟨i, b, hif, rfl, rfl, Hb, rfl⟩ := hrel
      by_cases hil : i < s.length
      · obtain ⟨f', rfl⟩ : ∃ f, gk = f + 1 := ⟨gk - 1, by omega⟩
        have r1 : (i : Int) < (s.length : Int) := by omega
        have r2 : (0 : Int) ≤ (i : Int) := by omega
        have r3 : IntKind.i64.wrap ((i : Int) + 1) = (i : Int) + 1 := i64_in _ (by omega)
        have hs := hasB_step C hil
        rw [← Hb.out] at hs
        have HS := Lib.hid hs
        obtain ⟨dn, hd⟩ : ∃ dn, dn = (bu s i).toNat := ⟨_, rfl⟩
        rw [← hd] at HS
        have HD := Lib.hid hd
        clear hd
        clear hs
        cases b
        · by_cases he : dn = C
          · have HS2 : Hid (true = hasB s C (i + 1)) := Lib.hid (by rw [HS.out, he]; simp)
            have HE := Lib.hid he
            clear he
            go_wp2_with fail
            go_roundg f'
            case measure => omega
            case rel => exact ⟨i + 1, true, by omega, by simp, by first | rfl | (have h1 := HD.out; have h2 := HE.out; have e : wrap64 ((bu s i).toNat : Int) = (C : Int) := (by rw [wrap_b]; omega); simp [e]), HS2, rfl⟩
          · have HS2 : Hid (false = hasB s C (i + 1)) := Lib.hid (by rw [HS.out]; simp [he])
            have HE := Lib.hid he
            clear he
            go_wp2_with fail
            go_roundg f'
            case measure => omega
            case rel => exact ⟨i + 1, false, by omega, by simp, by first | rfl | (have h1 := HD.out; have h2 := HE.out; have e : ¬ wrap64 ((bu s i).toNat : Int) = (C : Int) := (by rw [wrap_b]; omega); simp [e]), HS2, rfl⟩
        · have HS2 : Hid (true = hasB s C (i + 1)) := Lib.hid (by rw [HS.out]; rfl)
          go_wp2_with fail
          go_roundg f'
          case measure => omega
          case rel => exact ⟨i + 1, true, by omega, by simp, rfl, HS2, rfl⟩
      · obtain rfl : i = s.length := by omega
        have r1 : ¬ (s.length : Int) < (s.length : Int) := by omega
        cases b
        · have HS : Hid (sgsP s (j + 1) = o) := Lib.hid (by rw [HST.out, if_neg (fun h => by have := HAL.out.2 h; rw [← Hb.out] at this; cases this)])
          have HJ : Hid ((97 + (j + 1) : Nat) = C + 1) := Lib.hid (by have := HC.out; omega)
          go_wp2_with fail
          go_roundg f
          case measure => omega
          case rel => exact ⟨j + 1, by omega, by first | rfl | rw [H3.out], by rw [HS.out], HB⟩
        · have HS : Hid (sgsP s (j + 1) = o ++ [cb]) := Lib.hid (by rw [HST.out, if_pos (HAL.out.1 Hb.out.symm)])
          have hcv : (convert 64 9 (.slice (some ⟨wr.heap.size, 0, none⟩) 1 1)).run Tryz.prog (wr.alloc (.cells #[.int .u8 (cb.toNat : Int)] 5)) = .ok (.string ⟨[cb].toArray⟩) (wr.alloc (.cells #[.int .u8 (cb.toNat : Int)] 5)) :=
            run_convert_bytes_back _ _ _ 5 ⟨wr.heap.size, 0, none⟩ 1 [cb] Tryz.underlying64 Tryz.underlying5 Tryz.underlying9 fun i hi => by
              have : i = 0 := by simpa using hi
              subst this
              rw [Addr.add_lit, cell_of_row _ wr.heap.size 0 _ _ (0, 0) (heap_alloc_new wr _)]
              rfl
          have HB2 := Lib.hid (HB.out.alloc HB.out.size (.cells #[.int .u8 (cb.toNat : Int)] 5))
          go_wp2_with fail
          go_roundg f
          case measure => omega
          case rel => exact ⟨j + 1, by omega, by first | rfl | rw [H3.out], by rw [HS.out], HB2⟩
end Go.Proofs.YtchhbnnpannnhaaGreatDoor

namespace Go.Proofs.YtchhbnnpannnhaaGreatDoor
open Go.RowKit Go.Lib Go.Sort IntWalk
attribute [local go_sem] byte_at str_app

/-- What Null answers, whatever it is. -/
def NulSays (s : List UInt8) (x : Bool) (k : Int) : Prop := (k ≠ 0 ∧ x = false ∧ (s.length ≤ 12 → par s = none) ∧ (12 < s.length → k = 4)) ∨ (k = 0 ∧ s.length ≤ 12 ∧ ∃ t, par s = some t ∧ x = nul t)
theorem rnull_say (s : List UInt8) (w : World) (h9 : s.length ≤ 9223372036854775807) :
    Calls Tryz.prog 29 #[S s] w fun e w' => (∃ x k, e = .returned (.tuple #[.bool x, errV k]) ∧ NulSays s x k) ∧ Below w.heap.size w w' :=
  (rnull_any s w h9).mono fun e w' h => by
    rcases h with ⟨⟨hne, rfl⟩ | ⟨t, h0, h12, ht, rfl⟩, hb⟩
    · refine ⟨⟨false, parsE s, rfl, .inl ⟨hne, rfl, fun h12 => ?_, fun h12 => parsE_long h12⟩⟩, hb⟩
      cases hp : par s with
      | none => rfl
      | some t => exact absurd (parsE_of h12 hp) hne
    · exact ⟨⟨nul t, 0, rfl, .inr ⟨rfl, h12, t, ht, rfl⟩⟩, hb⟩
end Go.Proofs.YtchhbnnpannnhaaGreatDoor

namespace Go.Proofs.YtchhbnnpannnhaaGreatDoor
open Go.RowKit Go.Lib Go.Sort IntWalk
attribute [local go_sem] byte_at str_app

theorem bad_e {p : List UInt8} {k : Int} (h4 : 12 < p.length → k = 4) (h2 : p.length ≤ 12 → k = 2 ∧ rdR p = none) : parsE p = k := by
  by_cases h : 12 < p.length
  · rw [h4 h]; exact parsE_long h
  · obtain ⟨rfl, hn⟩ := h2 (by omega)
    refine parsE_no (by omega) ?_
    have := rd_par p
    rw [hn] at this
    cases hp : par p with
    | none => rfl
    | some t => rw [hp] at this; exact this.elim
theorem good_e {p : List UInt8} {rt : Rt} (h12 : p.length ≤ 12) (h : rdR p = some rt) : parsE p = 0 ∧ ∃ t, par p = some t ∧ mt rt [] = nul t := by
  have := rd_par p
  rw [h] at this
  cases hp : par p with
  | none => rw [hp] at this; exact this.elim
  | some t => rw [hp] at this; exact ⟨parsE_of h12 hp, t, rfl, mt_nul this⟩
set_option maxRecDepth 100000 in
set_option maxHeartbeats 4000000 in
theorem fitsT_any (rt : Rt) (s : List UInt8) (hs : s.length ≤ 1000) (v : Value) (xs : List N4) (l : List UInt8) (b : Bool) (tp : Nat) (w : World) (hv : NV w 0 v xs) (hr : RepR xs rt tp) :
    Calls Tryz.prog 23 #[PV v l b tp, S s] w fun e w' => e = .returned (.bool (mt rt s)) ∧ Below w.heap.size w w' := by
  have HST := Lib.hid ((Below.refl w.heap.size w).alloc (Nat.le_refl _) (pObj v l b tp))
  have HC := Lib.hid (fits_any rt s hs xs v l b tp tp _ (hv.keep HST.out (Nat.le_refl _)) hr)
  have h1 := heap_alloc_new w (pObj v l b tp)
  obtain ⟨a0, a1, a2, a3, _, _, _, _⟩ := four_at h1
  generalize mt rt s = M at *
  clear hv hr h1
  go_enter Tryz.func23, Tryz.ntmps23
  go_wp2_with fail
  refine HC.out.mono ?_
  rintro e w1 ⟨rfl, hb⟩
  have HB := Lib.hid (HST.out.trans (hb.mono HST.out.size))
  clear hb
  go_wp2_with fail
  go_ret
  exact ⟨rfl, HB.out⟩
end Go.Proofs.YtchhbnnpannnhaaGreatDoor

namespace Go.Proofs.YtchhbnnpannnhaaGreatDoor
open Go.RowKit Go.Lib IntWalk Go.Maps
set_option linter.unusedSimpArgs false
set_option linter.unusedVariables false
attribute [local go_sem] byte_at str_app

theorem srt_iff {n : Nat} {L M : List Nat} (h : ∀ i, i ∈ L ↔ i ∈ M) : srt n L = srt n M := by
  unfold srt
  congr 1
  funext j
  rw [decide_eq_decide]
  exact h j
theorem nx_iff {n i : Nat} {t : Pt} {P : List (Nat × Nat)} (h : ∀ i j, (i, j) ∈ prP t ↔ (i, j) ∈ P) : srt n (nxA P i) = nxN n t i := by
  unfold srt nxN
  congr 1
  funext j
  rw [decide_eq_decide, h]
  unfold nxA
  rw [List.mem_map]
  constructor
  · rintro ⟨⟨a, b⟩, hp, rfl⟩
    rw [List.mem_filter, decide_eq_true_eq] at hp
    obtain ⟨h1, h2⟩ := hp
    have h2 : a = i := h2
    subst h2
    exact h1
  · intro hp
    exact ⟨(i, j), List.mem_filter.2 ⟨hp, by simp⟩, rfl⟩
theorem nxR_iff {n : Nat} {t : Pt} {P : List (Nat × Nat)} (h : ∀ i j, (i, j) ∈ prP t ↔ (i, j) ∈ P) : (nxR P n).map zs = nxL n t := by
  unfold nxR nxL
  rw [List.map_map]
  refine List.map_congr_left fun i _ => ?_
  exact congrArg zs (nx_iff h)
theorem ro_le {n : Nat} {t : Pt} {i : Nat} (h : n ≤ 12) : (ro (nxL n t) i).length ≤ 100000 := by
  rcases Nat.lt_or_ge i n with hi | hi
  · rw [ro_nxL hi]
    have : (nxN n t i).length ≤ n := by unfold nxN; exact Nat.le_trans (List.length_filter_le _ _) (by simp)
    simp only [zs, List.length_map]; omega
  · unfold ro nxL
    rw [List.getElem?_eq_none (by simpa using hi)]; simp
theorem Rws.nilS (w : World) (B : Nat) : Rws w B none 0 [] := ⟨rfl, fun h => absurd h (by omega)⟩
theorem match_short {p s : List UInt8} {t : Pt} {rt : Rt} (he : parsE p = 0) (ht : par p = some t) (hr : Rel rt t) (h8 : s.length ≤ 8) : matchV p s = mt rt s ∧ matchE p s = 0 := by
  have e0 : matchE p s = 0 := by unfold matchE; rw [if_neg (by simp [he]), if_neg (by omega)]
  refine ⟨?_, e0⟩
  unfold matchV
  rw [e0, ht]
  show (true && mtch t s) = _
  unfold mtch
  by_cases h : s = []
  · rw [if_pos h, h, mt_nul hr]; rfl
  · rw [if_neg h, simP_mt ht hr h]; rfl
theorem match_long {p s : List UInt8} (he : parsE p = 0) (h8 : 8 < s.length) : matchV p s = false ∧ matchE p s = 4 := by
  have e0 : matchE p s = 4 := by unfold matchE; rw [if_neg (by simp [he]), if_pos h8]
  refine ⟨?_, e0⟩
  unfold matchV
  rw [e0]; rfl
theorem match_bad {p s : List UInt8} (he : parsE p ≠ 0) : matchV p s = false ∧ matchE p s = parsE p := by
  have e0 : matchE p s = parsE p := by unfold matchE; rw [if_pos he]
  refine ⟨?_, e0⟩
  unfold matchV
  rw [e0]
  simp [he]
end Go.Proofs.YtchhbnnpannnhaaGreatDoor

namespace Go.Proofs.YtchhbnnpannnhaaGreatDoor
open Go.RowKit IntWalk
set_option linter.unusedSimpArgs false
set_option linter.unusedVariables false
attribute [local go_sem] byte_at str_app
attribute [local go_sem ↓] Go.wp_at_zero Go.wp_at_succ

/-- The places of a set. -/
def plM (n m : Nat) : List Nat := (List.range n).filter fun i => m.testBit i
/-- What the document keeps of a state. -/
def stZ (n m : Nat) : List Int := if m = beg then [-1] else zs (plM n m)
theorem mem_plM {n m i : Nat} : i ∈ plM n m ↔ i < n ∧ m.testBit i = true := by unfold plM; rw [List.mem_filter, List.mem_range]
theorem plM_len (n m : Nat) : (plM n m).length ≤ n := by unfold plM; exact Nat.le_trans (List.length_filter_le _ _) (by simp)
theorem zs_inj : ∀ {a b : List Nat}, zs a = zs b → a = b
  | [], [], _ => rfl
  | [], y :: b, h => by cases h
  | x :: a, [], h => by cases h
  | x :: a, y :: b, h => by
    have h : (x : Int) :: zs a = (y : Int) :: zs b := h
    injection h with h1 h2
    have h1 : x = y := by omega
    rw [h1, zs_inj h2]
theorem plM_inj {n a b : Nat} (ha : a < 2 ^ n) (hb : b < 2 ^ n) (h : plM n a = plM n b) : a = b := by
  refine Nat.eq_of_testBit_eq fun i => ?_
  rcases Nat.lt_or_ge i n with hi | hi
  · rw [Bool.eq_iff_iff]
    have h1 := mem_plM (n := n) (m := a) (i := i)
    have h2 := mem_plM (n := n) (m := b) (i := i)
    rw [h, h2] at h1
    constructor
    · intro e; exact (h1.2 ⟨hi, e⟩).2
    · intro e; exact (h1.1 ⟨hi, e⟩).2
  · have hp : 2 ^ n ≤ 2 ^ i := Nat.pow_le_pow_right (by omega) hi
    rw [Nat.testBit_lt_two_pow (by omega), Nat.testBit_lt_two_pow (by omega)]
theorem stZ_inj {n a b : Nat} (ha : a = beg ∨ a < 2 ^ n) (hb : b = beg ∨ b < 2 ^ n) (h : stZ n a = stZ n b) : a = b := by
  have key : ∀ L : List Nat, zs L ≠ [-1] := fun L e => by
    cases L with
    | nil => cases e
    | cons x L =>
      have e : ((x : Int) :: zs L) = [-1] := e
      injection e with e _
      omega
  unfold stZ at h
  by_cases h1 : a = beg <;> by_cases h2 : b = beg
  · rw [h1, h2]
  · rw [if_pos h1, if_neg h2] at h; exact absurd h.symm (key _)
  · rw [if_neg h1, if_pos h2] at h; exact absurd h (key _)
  · rw [if_neg h1, if_neg h2] at h
    exact plM_inj (ha.resolve_left h1) (hb.resolve_left h2) (zs_inj h)
theorem stZ_len {n m : Nat} (hn : n ≤ 12) : (stZ n m).length ≤ 12 := by
  unfold stZ
  split
  · simp
  · have := plM_len n m
    simp only [zs, List.length_map]; omega
/-- Where one can come to, the first i places of a state looked at. -/
def canP (t : Pt) (m i : Nat) : List Nat := if m = beg then srt (leaves t).length (fsP t) else ((plM (leaves t).length m).take i).flatMap (nxN (leaves t).length t)
theorem canP_step {t : Pt} {m i x : Nat} (hm : m ≠ beg) (h : (plM (leaves t).length m)[i]? = some x) : canP t m (i + 1) = canP t m i ++ nxN (leaves t).length t x := by
  unfold canP
  rw [if_neg hm, if_neg hm, List.take_add_one, h, List.flatMap_append]
  simp
theorem nxN_len (n : Nat) (t : Pt) (i : Nat) : (nxN n t i).length ≤ n := by unfold nxN; exact Nat.le_trans (List.length_filter_le _ _) (by simp)
theorem canP_len {t : Pt} {m : Nat} (hn : (leaves t).length ≤ 12) : ∀ i, (canP t m i).length ≤ 12 * (i + 1)
  | 0 => by
    unfold canP
    split
    · have := srt_lenP (leaves t).length (fsP t); omega
    · simp
  | i + 1 => by
    have ih := canP_len (m := m) hn i
    by_cases hm : m = beg
    · have e : canP t m (i + 1) = canP t m i := by unfold canP; rw [if_pos hm, if_pos hm]
      rw [e]; omega
    · cases hx : (plM (leaves t).length m)[i]? with
      | none =>
        have e : canP t m (i + 1) = canP t m i := by
          unfold canP
          rw [if_neg hm, if_neg hm, List.take_add_one, hx]; simp
        rw [e]; omega
      | some x =>
        rw [canP_step hm hx, List.length_append]
        have := nxN_len (leaves t).length t x
        omega
theorem canP_mem {t : Pt} {m j k : Nat} (hj : j < (leaves t).length) (hk : (plM (leaves t).length m).length ≤ k) : j ∈ canP t m k ↔ canM t m j = true := by
  unfold canP canM
  by_cases hm : m = beg
  · rw [if_pos hm, if_pos hm, mem_srt, decide_eq_true_eq]
    exact ⟨fun h => h.2, fun h => ⟨hj, h⟩⟩
  · rw [if_neg hm, if_neg hm, List.take_of_length_le hk, List.mem_flatMap, List.any_eq_true]
    constructor
    · rintro ⟨i, hi, hij⟩
      obtain ⟨h1, h2⟩ := mem_plM.1 hi
      exact ⟨i, List.mem_range.2 h1, by rw [h2, decide_eq_true (mem_nxN.1 hij).2]; rfl⟩
    · rintro ⟨i, hi, hij⟩
      rw [Bool.and_eq_true, decide_eq_true_eq] at hij
      exact ⟨i, mem_plM.2 ⟨List.mem_range.1 hi, hij.1⟩, mem_nxN.2 ⟨hj, hij.2⟩⟩
/-- Where a sign leads, the first k places looked at; can: where one can come to. -/
def toP (t : Pt) (c : UInt8) (C : List Nat) (k : Nat) : List Nat := (List.range k).filter fun j => decide (bu (leaves t) j = c) && decide (j ∈ C)
theorem toP_step (t : Pt) (c : UInt8) (C : List Nat) (k : Nat) : toP t c C (k + 1) = if (decide (bu (leaves t) k = c) && decide (k ∈ C)) = true then toP t c C k ++ [k] else toP t c C k := by
  unfold toP
  rw [List.range_succ, List.filter_append]
  by_cases h : (decide (bu (leaves t) k = c) && decide (k ∈ C)) = true
  · simp only [List.filter_cons, List.filter_nil]
    rw [if_pos h, if_pos h]
  · simp only [List.filter_cons, List.filter_nil]
    rw [if_neg h, if_neg h, List.append_nil]
theorem toP_len (t : Pt) (c : UInt8) (C : List Nat) (k : Nat) : (toP t c C k).length ≤ k := by unfold toP; exact Nat.le_trans (List.length_filter_le _ _) (by simp)
theorem toP_end {t : Pt} {m k : Nat} (c : UInt8) (hk : (plM (leaves t).length m).length ≤ k) : toP t c (canP t m k) (leaves t).length = plM (leaves t).length (toM t m c) := by
  unfold toP plM
  refine List.filter_congr fun j hj => ?_
  have hj := List.mem_range.1 hj
  rw [toM_bit, decide_eq_true hj, Bool.true_and]
  congr 1
  rw [Bool.eq_iff_iff, decide_eq_true_eq]
  exact canP_mem hj hk
theorem toP_endZ {t : Pt} {m k : Nat} (hn : (leaves t).length ≤ 12) (c : UInt8) (hk : (plM (leaves t).length m).length ≤ k) : zs (toP t c (canP t m k) (leaves t).length) = stZ (leaves t).length (toM t m c) := by
  have h := toM_lt (m := m) (c := c) hn
  unfold stZ
  rw [if_neg (by unfold beg; omega), toP_end c hk]
/-- Does a state take, the first i of its row looked at. -/
def tkS (t : Pt) (m i : Nat) : Bool := (decide (m = beg) && nul t) || ((stZ (leaves t).length m).take i).any fun z => decide (z ∈ zs (srt (leaves t).length (lsP t)))
theorem tkS_zero (t : Pt) (m : Nat) : tkS t m 0 = (decide (m = beg) && nul t) := by unfold tkS; simp
theorem tkS_step {t : Pt} {m i : Nat} {z : Int} (h : (stZ (leaves t).length m)[i]? = some z) : tkS t m (i + 1) = (tkS t m i || decide (z ∈ zs (srt (leaves t).length (lsP t)))) := by
  unfold tkS
  rw [List.take_add_one, h, List.any_append, ← Bool.or_assoc]
  simp
theorem tkS_end (t : Pt) (m : Nat) : tkS t m (stZ (leaves t).length m).length = tkM t m := by
  unfold tkS tkM
  rw [List.take_length]
  unfold stZ
  by_cases hm : m = beg
  · rw [if_pos hm, if_pos hm, decide_eq_true hm, Bool.true_and]
    have : ([-1] : List Int).any (fun z => decide (z ∈ zs (srt (leaves t).length (lsP t)))) = false := by
      rw [List.any_cons, List.any_nil, Bool.or_false]
      refine decide_eq_false fun h => ?_
      obtain ⟨j, _, e⟩ := List.mem_map.1 h
      omega
    rw [this, Bool.or_false]
  · rw [if_neg hm, if_neg hm, decide_eq_false hm, Bool.false_and, Bool.false_or, Bool.eq_iff_iff, List.any_eq_true, List.any_eq_true]
    constructor
    · rintro ⟨z, hz, h⟩
      obtain ⟨i, hi, rfl⟩ := List.mem_map.1 hz
      obtain ⟨h1, h2⟩ := mem_plM.1 hi
      rw [decide_eq_true_eq, mem_zsP, mem_srt] at h
      exact ⟨i, List.mem_range.2 h1, by rw [h2, decide_eq_true h.2]; rfl⟩
    · rintro ⟨i, hi, h⟩
      rw [Bool.and_eq_true, decide_eq_true_eq] at h
      exact ⟨i, List.mem_map.2 ⟨i, mem_plM.2 ⟨List.mem_range.1 hi, h.1⟩, rfl⟩, by rw [decide_eq_true_eq, mem_zsP, mem_srt]; exact ⟨List.mem_range.1 hi, h.2⟩⟩
/-- The search among the states' rows. -/
theorem idx_noneS {met : List Nat} {t : Nat} (h : ∀ j, j < met.length → met.getD j 0 ≠ t) : met.idxOf t = met.length := by
  have h1 : met.idxOf t ≤ met.length := List.idxOf_le_length
  refine (Nat.lt_or_ge (met.idxOf t) met.length).elim (fun hl => ?_) (fun hl => by omega)
  exfalso
  obtain ⟨j, hj, rfl⟩ := List.getElem_of_mem (List.idxOf_lt_length_iff.1 hl)
  refine h j hj ?_
  rw [List.getD_eq_getElem?_getD, List.getElem?_eq_getElem hj]; rfl
theorem idx_someS {met : List Nat} {t n : Nat} (h : ∀ j, j < n → met.getD j 0 ≠ t) (hn : n < met.length) (he : met.getD n 0 = t) : met.idxOf t = n := by
  have hg : ∀ j (hj : j < met.length), met.getD j 0 = met[j] := fun j hj => by rw [List.getD_eq_getElem?_getD, List.getElem?_eq_getElem hj]; rfl
  rw [hg n hn] at he
  have hm : t ∈ met := by rw [← he]; exact List.getElem_mem hn
  have hl := List.idxOf_lt_length_iff.2 hm
  have hv : met[met.idxOf t] = t := List.getElem_idxOf hl
  rcases Nat.lt_trichotomy (met.idxOf t) n with hlt | heq | hgt
  · exact absurd ((hg _ hl).trans hv) (h _ hlt)
  · exact heq
  · exfalso
    have : met.idxOf t ≤ n := by
      unfold List.idxOf
      refine Nat.le_of_not_lt fun hc => ?_
      have := List.not_of_lt_findIdx hc
      simp [he] at this
    omega
theorem MetD.mem {n : Nat} {met : List Nat} (h : MetD n met) {j : Nat} (hj : j < met.length) : met.getD j 0 = beg ∨ met.getD j 0 < 2 ^ n := by
  obtain ⟨l, rfl, hl⟩ := h.fst
  rw [List.getD_eq_getElem?_getD, List.getElem?_eq_getElem hj]
  rcases List.mem_cons.1 (List.getElem_mem hj) with e | e
  · exact .inl e
  · exact .inr (hl _ e)
theorem MetD.at0 {n : Nat} {met : List Nat} (h : MetD n met) : met.getD 0 0 = beg := by
  obtain ⟨l, rfl, hl⟩ := h.fst; rfl
theorem MetD.atS {n : Nat} {met : List Nat} (h : MetD n met) {j : Nat} (h0 : 0 < j) (hj : j < met.length) : met.getD j 0 ≠ beg := by
  obtain ⟨l, rfl, hl⟩ := h.fst
  obtain ⟨i, rfl⟩ : ∃ i, j = i + 1 := ⟨j - 1, by omega⟩
  have hi : i < l.length := by simpa using hj
  have e : (beg :: l).getD (i + 1) 0 = l[i] := by rw [List.getD_eq_getElem?_getD, List.getElem?_cons_succ, List.getElem?_eq_getElem hi]; rfl
  rw [e]
  intro e2
  exact (List.nodup_cons.1 h.nd).1 (by rw [← e2]; exact List.getElem_mem hi)
theorem ro_stZ {n : Nat} {met : List Nat} {j : Nat} (hj : j < met.length) : ro (met.map (stZ n)) j = stZ n (met.getD j 0) := by
  unfold ro
  rw [List.getElem?_map, List.getD_eq_getElem?_getD, List.getElem?_eq_getElem hj]; rfl
set_option maxRecDepth 100000 in
set_option maxHeartbeats 2000000 in
theorem smZ_any (A A2 : Option Addr) (n m c c2 B : Nat) (L L2 : List Int) (w : World) (h : Ints w B A n L) (h2 : Ints w B A2 m L2) (hn : n ≤ 100000) :
    Calls Tryz.prog 26 #[.slice A n c, .slice A2 m c2] w fun e w' => e = .returned (.bool (decide (L = L2))) ∧ ∃ q, w' = w.drewN q := by
  have H1 := Lib.hid h; have H2 := Lib.hid h2
  have l1 := h.1; have l2 := h2.1
  clear h h2
  by_cases hnm : n = m
  · subst hnm
    have q1 : ((n : Int) != (n : Int)) = false := by simp
    have HL := Lib.hid l1; have HL2 := Lib.hid l2
    clear l1 l2
    go_enter Tryz.func26, Tryz.ntmps26
    go_wp2_with fail
    go_loopg [5] n (fun f iv wr => ∃ j q : Nat, j + f = n ∧ iv = .int .i64 (j : Int) ∧ wr = w.drewN q ∧ Hid (∀ i, i < j → gi L i = gi L2 i))
    case atStart => exact ⟨0, 0, by omega, rfl, rfl, Lib.hid fun i h => absurd h (by omega)⟩
    case round =>
      obtain ⟨j, q, hjf, rfl, rfl, HP⟩ := hrel
      by_cases hlt : j < n
      · obtain ⟨f, rfl⟩ : ∃ f, gk = f + 1 := ⟨gk - 1, by omega⟩
        obtain ⟨b, o, rfl, _, c0⟩ := H1.out.at_ hlt
        obtain ⟨b2, o2, rfl, _, c1⟩ := H2.out.at_ hlt
        have p1 : (j : Int) < (n : Int) := by omega
        have p2 : IntKind.i64.wrap ((j : Int) + 1) = (j : Int) + 1 := i64_in _ (by omega)
        by_cases he : gi L j = gi L2 j
        · have HP2 : Hid (∀ i, i < j + 1 → gi L i = gi L2 i) := Lib.hid fun i hi => by
            rcases Nat.lt_or_ge i j with hl | hl
            · exact HP.out i hl
            · obtain rfl : i = j := by omega
              exact he
          have q2 : (gi L j != gi L2 j) = false := by rw [he]; simp
          clear he HP
          generalize gi L j = x at *
          generalize gi L2 j = y at *
          go_wp2_with fail
          go_quiet (fail)
          go_wp2_with fail
          go_roundg f
          case measure => omega
          case rel => exact ⟨j + 1, q + nq, by omega, by simp, by simp, HP2⟩
        · have q2 : (gi L j != gi L2 j) = true := by simpa using he
          have HD : Hid (decide (L = L2) = false) := Lib.hid (decide_eq_false fun e => he (by rw [e]))
          clear he HP
          generalize gi L j = x at *
          generalize gi L2 j = y at *
          go_wp2_with fail
          go_quiet (fail)
          go_wp2_with fail
          go_ret
          exact ⟨ret_bool HD.out.symm, q + nq, by simp⟩
      · obtain rfl : j = n := by omega
        have HD : Hid (decide (L = L2) = true) := Lib.hid (decide_eq_true (ints_ext (HL.out.trans HL2.out.symm) fun i hi => HP.out i (by rw [HL.out] at hi; exact hi)))
        have p1 : ¬ (j : Int) < (j : Int) := by omega
        clear HP
        go_wp2_with fail
        go_ret
        exact ⟨ret_bool HD.out.symm, _, rfl⟩
  · have q1 : ((n : Int) != (m : Int)) = true := by simp; omega
    have HD : Hid (decide (L = L2) = false) := Lib.hid (decide_eq_false fun e => hnm (by rw [← l1, ← l2, e]))
    clear l1 l2 hnm
    go_enter Tryz.func26, Tryz.ntmps26
    go_wp2_with fail
    go_ret
    exact ⟨ret_bool HD.out.symm, 0, rfl⟩

end Go.Proofs.YtchhbnnpannnhaaGreatDoor

namespace Go.Proofs.YtchhbnnpannnhaaGreatDoor
open Go.RowKit IntWalk
set_option linter.unusedSimpArgs false

/-- A row of numbers of the call's own. -/
abbrev OwI (w : World) (D : Nat) (v : Value) (K : List Int) : Prop := w.ownsRow D 3 1 v (K.map (Value.int .i64)).length (K.map (Value.int .i64))
theorem own_typed {w : World} {D n : Nat} {e : TypeId} {v : Value} {xs : List Value} (h : w.ownsRow D e 1 v n xs) {k : Nat} (hk : v.ownBlock = some k) : ∃ cs, w.heap[k]? = some (.cells cs e (0, 0)) := by
  rcases h.2 with ⟨rfl, _⟩ | ⟨g, cap, cur, rfl, _, hg, _⟩
  · cases hk
  · obtain rfl : g = k := by injection hk
    exact ⟨_, hg⟩
theorem own_kept {w w' : World} {D n : Nat} {e : TypeId} {v : Value} {xs : List Value} {row : Option Nat} (h : w.ownsRow D e 1 v n xs) (hg : w.grownBy w' row) (hn : ∀ k, v.ownBlock = some k → row ≠ some k) : w'.ownsRow D e 1 v n xs := by
  refine h.kept hg ?_
  cases hv : v.ownBlock with
  | none => exact .inl rfl
  | some k => exact .inr fun e => hn k hv e.symm
theorem ints_own2 {w : World} {D n c : Nat} {A : Option Addr} {K : List Int} (h : OwI w D (.slice A n c) K) : Ints w w.heap.size A n K := by
  have hn : n = K.length := by
    obtain ⟨A', c', e, _⟩ := own_shape h
    injection e with _ e _
    rw [e, List.length_map]
  refine ⟨hn.symm, fun hp => ?_⟩
  rcases h.2 with ⟨e, h0⟩ | ⟨g, cap, cur, e, hg, hh, _, _, _, htake⟩
  · rw [List.length_map] at h0; omega
  · injection e with e1 e2 e3
    subst e1
    refine ⟨g, 0, rfl, (Array.getElem?_eq_some_iff.1 hh).1, fun j hj => ?_⟩
    have := h.cells (g := g) rfl j (.int .i64 (gi K j)) (by rw [List.getElem?_map, List.getElem?_eq_getElem (by omega), gi_eq (by omega)]; rfl)
    rw [Nat.zero_add]
    rwa [Addr.add_lit, Nat.zero_add] at this
/-- Rows of numbers of the call's own, each nil or in a block that 'ok' allows. -/
def KY (w : World) (D : Nat) (v : Value) (KS : List (List Int)) (ok : Nat → Prop) : Prop :=
  ∃ KC : List Value, KC.length = KS.length ∧ w.ownsRow D 44 1 v KC.length KC ∧ ∀ j, j < KS.length → ∃ u, KC[j]? = some u ∧ OwI w D u (ro KS j) ∧ ∀ k, u.ownBlock = some k → ok k
section
variable {w w' : World} {D : Nat} {v : Value} {KS : List (List Int)} {ok ok' : Nat → Prop}
theorem KY.nil (w : World) (D : Nat) (ok : Nat → Prop) : KY w D (.slice none 0 0) [] ok := ⟨[], rfl, World.ownsRow_nil _ _ _ _, fun j hj => absurd hj (by simp)⟩
theorem KY.shape (h : KY w D v KS ok) : ∃ A c, v = .slice A KS.length c := by
  obtain ⟨KC, h1, h2, _⟩ := h
  obtain ⟨A, c, e, _⟩ := own_shape h2
  exact ⟨A, c, by rw [e, h1]⟩
theorem KY.type (h : KY w D v KS ok) {k : Nat} (hk : v.ownBlock = some k) : ∃ cs, w.heap[k]? = some (.cells cs 44 (0, 0)) := by
  obtain ⟨KC, _, h2, _⟩ := h
  exact own_typed h2 hk
theorem KY.lt (h : KY w D v KS ok) {k : Nat} (hk : v.ownBlock = some k) : D ≤ k ∧ k < w.heap.size := by
  obtain ⟨KC, _, h2, _⟩ := h
  exact h2.lt k hk
theorem KY.weak (h : KY w D v KS ok) (hw : ∀ b, b < w.heap.size → ok b → ok' b) : KY w D v KS ok' := by
  obtain ⟨KC, h1, h2, h3⟩ := h
  refine ⟨KC, h1, h2, fun j hj => ?_⟩
  obtain ⟨u, k1, k2, k3⟩ := h3 j hj
  exact ⟨u, k1, k2, fun k hk => hw k (k2.lt k hk).2 (k3 k hk)⟩
/-- What else turns leaves the rows: a block that is none of theirs. -/
theorem KY.grown {row : Option Nat} (h : KY w D v KS ok) (hg : w.grownBy w' row) (h1 : ∀ k, row = some k → D ≤ k → v.ownBlock ≠ some k) (h2 : ∀ (k : Nat) (cur : Array Value), row = some k → D ≤ k → w.heap[k]? = some (.cells cur 3 (0, 0)) → ¬ ok k) : KY w' D v KS ok := by
  obtain ⟨KC, c1, c2, c3⟩ := h
  refine ⟨KC, c1, own_kept c2 hg fun k hk e => h1 k e (own_lt c2 hk) hk, fun j hj => ?_⟩
  obtain ⟨u, k1, k2, k3⟩ := c3 j hj
  refine ⟨u, k1, own_kept k2 hg fun k hk e => ?_, k3⟩
  obtain ⟨cs, hc⟩ := own_typed k2 hk
  exact h2 k cs e (own_lt k2 hk) hc (k3 k hk)
theorem KY.rows {n c : Nat} {A : Option Addr} (h : KY w D (.slice A n c) KS ok) : Rws w w.heap.size A n KS := by
  obtain ⟨KC, h1, h2, h3⟩ := h
  have hn : KC.length = n := by
    rcases own_shape h2 with ⟨A', c', e, _⟩
    injection e with _ e _
    exact e.symm
  refine ⟨by rw [← h1, hn], fun hp => ?_⟩
  rcases h2.2 with ⟨e, h0⟩ | ⟨g, cap, cur, e, hg, hh, _, _, _, htake⟩
  · omega
  · injection e with e1 e2 e3
    subst e1
    refine ⟨g, 0, rfl, (Array.getElem?_eq_some_iff.1 hh).1, fun j hj => ?_⟩
    obtain ⟨u, k1, k2, _⟩ := h3 j (by omega)
    obtain ⟨A', c', e', _⟩ := own_shape k2
    subst e'
    refine ⟨A', _, c', ?_, ints_own2 k2⟩
    have := h2.cells (g := g) rfl j _ k1
    rw [Nat.zero_add]
    rwa [Addr.add_lit, Nat.zero_add] at this
/-- One row more. -/
theorem KY.snoc {v' u : Value} {K : List Int} {KC : List Value} (h1 : KC.length = KS.length) (h2 : w.ownsRow D 44 1 v KC.length KC) (h3 : ∀ j, j < KS.length → ∃ u, KC[j]? = some u ∧ OwI w D u (ro KS j) ∧ ∀ k, u.ownBlock = some k → ok k)
    (hu : OwI w D u K) (hok : ∀ k, u.ownBlock = some k → ok k)
    (hKC : w'.ownsRow D 44 1 v' (KC ++ [u]).length (KC ++ [u])) (hg : w.grownBy w' v.ownBlock) : KY w' D v' (KS ++ [K]) ok := by
  have keep : ∀ (x : Value) (L : List Int), OwI w D x L → OwI w' D x L := fun x L hx => own_kept hx hg fun k hk e => by
    obtain ⟨cs, hc⟩ := own_typed hx hk
    obtain ⟨cs', hc'⟩ := own_typed h2 e
    exact ty_ne hc hc' (by decide)
  refine ⟨KC ++ [u], by simp [h1], hKC, fun j hj => ?_⟩
  rw [List.length_append, List.length_singleton] at hj
  by_cases hjl : j < KS.length
  · obtain ⟨x, k1, k2, k3⟩ := h3 j hjl
    have e : ro (KS ++ [K]) j = ro KS j := by unfold ro; rw [List.getElem?_append_left hjl]
    rw [e]
    exact ⟨x, by rw [List.getElem?_append_left (by omega)]; exact k1, keep x _ k2, k3⟩
  · obtain rfl : j = KS.length := by omega
    have e : ro (KS ++ [K]) KS.length = K := by unfold ro; simp
    rw [e]
    exact ⟨u, by rw [← h1]; simp, keep u K hu, hok⟩
end
/-- What is in memory of a machine that is being made. -/
structure OutR (sg : List UInt8) (wo : World) (gO D : Nat) (R : List (List Int)) (T : List Bool) (vN vT : Value) (ok : Nat → Prop) (w : World) : Prop where
  out : w.heap[gO]? = some (.cells #[S sg, vN, vT] 25 (0, 0))
  rows : KY w D vN R ok
  tks : w.ownsRow D 4 1 vT (T.map Value.bool).length (T.map Value.bool)
  low : Below gO wo w
  lt : gO < D
section
variable {sg : List UInt8} {wo : World} {gO D : Nat} {R : List (List Int)} {T : List Bool} {vN vT : Value} {ok ok' : Nat → Prop} {w w' : World}
theorem OutR.gt (h : OutR sg wo gO D R T vN vT ok w) : gO < w.heap.size := (Array.getElem?_eq_some_iff.1 h.out).1
theorem OutR.other {row : Option Nat} (h : OutR sg wo gO D R T vN vT ok w) (hg : w.grownBy w' row) (hr : ∀ k, row = some k → D ≤ k ∧ vN.ownBlock ≠ some k ∧ vT.ownBlock ≠ some k ∧ (∀ cur : Array Value, w.heap[k]? = some (.cells cur 3 (0, 0)) → ¬ ok k)) : OutR sg wo gO D R T vN vT ok w' := by
  have hD := h.lt
  have hlt := h.gt
  exact ⟨(hg.block gO hlt fun e => by have := (hr gO e.symm).1; omega).trans h.out, h.rows.grown hg (fun k hk _ => (hr k hk).2.1) (fun k cur hk _ hc => (hr k hk).2.2.2 cur hc), own_kept h.tks hg (fun k hk e => (hr k e).2.2.1 hk), h.low.grown hg (by have := h.low.size; omega) (fun k hk => by have := (hr k hk).1; omega), h.lt⟩
theorem OutR.alloc (h : OutR sg wo gO D R T vN vT ok w) (o : Obj) : OutR sg wo gO D R T vN vT ok (w.alloc o) := h.other (World.grownBy_alloc w o none) (fun k hk => by cases hk)
theorem OutR.drewN (h : OutR sg wo gO D R T vN vT ok w) (n : Nat) : OutR sg wo gO D R T vN vT ok (w.drewN n) :=
  ⟨h.out, h.rows, h.tks, below_drewN h.low n, h.lt⟩
theorem OutR.weak (h : OutR sg wo gO D R T vN vT ok w) (hw : ∀ b, b < w.heap.size → ok b → ok' b) : OutR sg wo gO D R T vN vT ok' w :=
  ⟨h.out, h.rows.weak hw, h.tks, h.low, h.lt⟩
/-- A row of numbers beside it turns. -/
theorem OutR.int {v : Value} {xs : List Value} {n : Nat} (h : OutR sg wo gO D R T vN vT ok w) (hv : w.ownsRow D 3 1 v n xs) (hg : w.grownBy w' v.ownBlock) (hok : ∀ k, v.ownBlock = some k → ¬ ok k) : OutR sg wo gO D R T vN vT ok w' :=
  h.other hg fun k hk => by
    obtain ⟨cs, hc⟩ := own_typed hv hk
    refine ⟨own_lt hv hk, fun e => ?_, fun e => ?_, fun _ _ => hok k hk⟩
    · obtain ⟨cs', hc'⟩ := h.rows.type e
      exact ty_ne hc hc' (by decide)
    · obtain ⟨cs', hc'⟩ := own_typed h.tks e
      exact ty_ne hc hc' (by decide)
/-- One truth more: the row, then the field. -/
theorem OutR.addT {v' : Value} {b : Bool} {w6 : World} (h : OutR sg wo gO D R T vN vT ok w) (hgr : w.grownBy w6 vT.ownBlock)
    (hown : w6.ownsRow D 4 1 v' ((T ++ [b]).map Value.bool).length ((T ++ [b]).map Value.bool)) : OutR sg wo gO D R (T ++ [b]) vN v' ok (w6.setCell ⟨gO, 2, none⟩ v') := by
  have hD := h.lt
  have hlt := h.gt
  have hTk : ∀ k, vT.ownBlock = some k → D ≤ k ∧ ∃ cs, w.heap[k]? = some (.cells cs 4 (0, 0)) := fun k hk => ⟨own_lt h.tks hk, own_typed h.tks hk⟩
  have ho6 : w6.heap[gO]? = some (.cells #[S sg, vN, vT] 25 (0, 0)) := (hgr.block gO hlt fun e => by have := (hTk gO e.symm).1; omega).trans h.out
  have hs6 := hgr.size
  have hN6 : KY w6 D vN R ok := h.rows.grown hgr (fun k hk _ hv => by
    obtain ⟨cs, hc⟩ := h.rows.type hv
    obtain ⟨_, cs', hb⟩ := hTk k hk
    exact ty_ne hc hb (by decide)) (fun k cur hk _ hc => by
    obtain ⟨_, cs', hb⟩ := hTk k hk
    exact absurd (ty_ne hc hb (by decide)) id)
  have hl6 := h.low.grown hgr (by have := h.low.size; omega) (fun k hk => by have := (hTk k hk).1; omega)
  have hst := grown_setJ w6 gO 2 v'
  exact ⟨set_at2 ho6, hN6.grown hst (fun k hk hd _ => by injection hk with hk; omega) (fun k cur hk hd _ => by injection hk with hk; omega), own_kept hown hst (fun k hk e => by injection e with e; have := own_lt hown hk; omega), hl6.setCell (p := ⟨gO, 2, none⟩) (Nat.le_refl _) _, h.lt⟩
/-- One row more: the rows, then the field. -/
theorem OutR.addN {K : List Int} {KC : List Value} {v' u : Value} {w6 : World} (h : OutR sg wo gO D R T vN vT ok w) (h1 : KC.length = R.length) (h2 : w.ownsRow D 44 1 vN KC.length KC)
    (h3 : ∀ j, j < R.length → ∃ u, KC[j]? = some u ∧ OwI w D u (ro R j) ∧ ∀ k, u.ownBlock = some k → ok k)
    (hu : OwI w D u K) (hok : ∀ k, u.ownBlock = some k → ok k)
    (hgr : w.grownBy w6 vN.ownBlock) (hown : w6.ownsRow D 44 1 v' (KC ++ [u]).length (KC ++ [u])) :
    OutR sg wo gO D (R ++ [K]) T v' vT ok (w6.setCell ⟨gO, 1, none⟩ v') := by
  have hD := h.lt
  have hlt := h.gt
  have hs6 := hgr.size
  have hNk : ∀ k, vN.ownBlock = some k → D ≤ k ∧ ∃ cs, w.heap[k]? = some (.cells cs 44 (0, 0)) := fun k hk => ⟨(h.rows.lt hk).1, h.rows.type hk⟩
  have hN6 : KY w6 D v' (R ++ [K]) ok := KY.snoc h1 h2 h3 hu hok hown hgr
  have ho6 : w6.heap[gO]? = some (.cells #[S sg, vN, vT] 25 (0, 0)) := (hgr.block gO hlt fun e => by have := (hNk gO e.symm).1; omega).trans h.out
  have hT6 := own_kept h.tks hgr (fun k hk e => by
    obtain ⟨cs, hc⟩ := own_typed h.tks hk
    obtain ⟨_, cs', hb⟩ := hNk k e
    exact ty_ne hc hb (by decide))
  have hl6 := h.low.grown hgr (by have := h.low.size; omega) (fun k hk => by have := (hNk k hk).1; omega)
  have hst := grown_setJ w6 gO 1 v'
  exact ⟨set_at1 ho6, hN6.grown hst (fun k hk hd _ => by injection hk with hk; omega) (fun k cur hk hd _ => by injection hk with hk; omega), own_kept hT6 hst (fun k hk e => by injection e with e; have := own_lt hT6 hk; omega), hl6.setCell (p := ⟨gO, 1, none⟩) (Nat.le_refl _) _, h.lt⟩
/-- What else is the call's own stays, where a truth, or a row, is added. -/
theorem OutR.keepT {v v' : Value} {e : TypeId} {n : Nat} {xs : List Value} {w6 : World} (h : OutR sg wo gO D R T vN vT ok w) (hgr : w.grownBy w6 vT.ownBlock) (he : e ≠ 4) (ho : w.ownsRow D e 1 v n xs) : (w6.setCell ⟨gO, 2, none⟩ v').ownsRow D e 1 v n xs :=
  own_kept (own_kept ho hgr fun k hk e' => by
    obtain ⟨cs, hc⟩ := own_typed ho hk
    obtain ⟨cs', hc'⟩ := own_typed h.tks e'
    exact ty_ne hc hc' he) (grown_setJ w6 gO 2 v') (fun k hk e' => by injection e' with e'; have := own_lt ho hk; have := h.lt; omega)
theorem OutR.keepN {v v' : Value} {e : TypeId} {n : Nat} {xs : List Value} {w6 : World} (h : OutR sg wo gO D R T vN vT ok w) (hgr : w.grownBy w6 vN.ownBlock) (he : e ≠ 44) (ho : w.ownsRow D e 1 v n xs) : (w6.setCell ⟨gO, 1, none⟩ v').ownsRow D e 1 v n xs :=
  own_kept (own_kept ho hgr fun k hk e' => by
    obtain ⟨cs, hc⟩ := own_typed ho hk
    obtain ⟨cs', hc'⟩ := h.rows.type e'
    exact ty_ne hc hc' he) (grown_setJ w6 gO 1 v') (fun k hk e' => by injection e' with e'; have := own_lt ho hk; have := h.lt; omega)
/-- A row that was appended to is still not one of the rows. -/
theorem OutR.turn {v v' : Value} {P : Nat → Prop} (h : OutR sg wo gO D R T vN vT (fun b => v.ownBlock ≠ some b ∧ P b) w) (hl : v'.ownBlock = v.ownBlock ∨ ∃ g, v'.ownBlock = some g ∧ w.heap.size ≤ g) :
    OutR sg wo gO D R T vN vT (fun b => (v.ownBlock ≠ some b ∧ P b) ∧ v'.ownBlock ≠ some b) w :=
  h.weak fun b hb hok => ⟨hok, by
    rcases hl with e | ⟨g, e, hg⟩
    · rw [e]; exact hok.1
    · rw [e]; intro e2; injection e2 with e2; omega⟩
end
theorem res_cellU {P : Program} {fn : Func} {p : Tmp} {ty : TypeId} (h : fn.results = #[.cell p ty]) (tmps : Array Value) (w : World) (g : Nat) (t : TypeId) (cs : Array Value) (fr : Nat × Nat) (d : TypeDesc)
    (hp : tmps.getD p undef = .pointer (some ⟨g, 0, none⟩)) (hg : w.heap[g]? = some (.cells cs t fr))
    (hu : P.underlying ty = some d) (hd : (match d with | .struct _ | .array _ _ => true | _ => false) = true) (hi : (P.info? ty).map (·.size) = some cs.size) :
    (results fn tmps).run P w = .ok (.agg cs) w := by
  have hp' : tmps[p]?.getD undef = .pointer (some ⟨g, 0, none⟩) := by simpa using hp
  simp [results, h, hp', asAddr, run_loadVar_row w g t ty cs fr d hg hu hd hi]
theorem own_agree {w W : World} {D n : Nat} {e : TypeId} {v : Value} {xs : List Value} (h : w.ownsRow D e 1 v n xs) (ha : ∀ k, D ≤ k → k < w.heap.size → W.heap[k]? = w.heap[k]?) : W.ownsRow D e 1 v n xs := by
  refine ⟨h.1, ?_⟩
  rcases h.2 with h2 | ⟨g, cap, cur, hv, hg, hh, r⟩
  · exact .inl h2
  · exact .inr ⟨g, cap, cur, hv, hg, (ha g hg (Array.getElem?_eq_some_iff.1 hh).1).trans hh, r⟩
theorem KY.agree {w W : World} {D : Nat} {v : Value} {KS : List (List Int)} {ok : Nat → Prop} (h : KY w D v KS ok) (ha : ∀ k, D ≤ k → k < w.heap.size → W.heap[k]? = w.heap[k]?) : KY W D v KS ok := by
  obtain ⟨KC, h1, h2, h3⟩ := h
  refine ⟨KC, h1, own_agree h2 ha, fun j hj => ?_⟩
  obtain ⟨u, k1, k2, k3⟩ := h3 j hj
  exact ⟨u, k1, own_agree k2 ha, k3⟩
theorem own_belowI {w W : World} {D n : Nat} {e : TypeId} {v : Value} {xs : List Value} (h : w.ownsRow D e 1 v n xs) (hb : Below w.heap.size w W) : W.ownsRow D e 1 v n xs := own_agree h fun k _ hk => hb.block k hk
theorem KY.belowI {w W : World} {D : Nat} {v : Value} {KS : List (List Int)} {ok : Nat → Prop} (h : KY w D v KS ok) (hb : Below w.heap.size w W) : KY W D v KS ok := h.agree fun k _ hk => hb.block k hk
theorem OutR.belowI {sg : List UInt8} {wo : World} {gO D : Nat} {R : List (List Int)} {T : List Bool} {vN vT : Value} {ok : Nat → Prop} {w W : World} (h : OutR sg wo gO D R T vN vT ok w) (hb : Below w.heap.size w W) : OutR sg wo gO D R T vN vT ok W :=
  ⟨(hb.block gO h.gt).trans h.out, h.rows.belowI hb, own_belowI h.tks hb, h.low.trans (hb.mono (Nat.le_of_lt h.gt)), h.lt⟩
/-- A machine that is being made, and the states' rows. -/
structure HmR (sg : List UInt8) (wo : World) (gO D : Nat) (R : List (List Int)) (T : List Bool) (vN vT sv : Value) (SS : List (List Int)) (ok : Nat → Prop) (w : World) : Prop where
  out : OutR sg wo gO D R T vN vT ok w
  set : KY w D sv SS ok
  ne : ∀ k, sv.ownBlock = some k → vN.ownBlock ≠ some k
section
variable {sg : List UInt8} {wo : World} {gO D : Nat} {R SS : List (List Int)} {T : List Bool} {vN vT sv : Value} {ok ok' : Nat → Prop} {w w' : World}
theorem HmR.belowI (h : HmR sg wo gO D R T vN vT sv SS ok w) (hb : Below w.heap.size w w') : HmR sg wo gO D R T vN vT sv SS ok w' := ⟨h.out.belowI hb, h.set.belowI hb, h.ne⟩
theorem HmR.weak (h : HmR sg wo gO D R T vN vT sv SS ok w) (hw : ∀ b, b < w.heap.size → ok b → ok' b) : HmR sg wo gO D R T vN vT sv SS ok' w := ⟨h.out.weak hw, h.set.weak hw, h.ne⟩
theorem HmR.int {v : Value} {xs : List Value} {n : Nat} (h : HmR sg wo gO D R T vN vT sv SS ok w) (hv : w.ownsRow D 3 1 v n xs) (hg : w.grownBy w' v.ownBlock) (hok : ∀ k, v.ownBlock = some k → ¬ ok k) : HmR sg wo gO D R T vN vT sv SS ok w' :=
  ⟨h.out.int hv hg hok, h.set.grown hg (fun k hk _ e => by
    obtain ⟨cs, hc⟩ := own_typed hv hk
    obtain ⟨cs', hc'⟩ := h.set.type e
    exact ty_ne hc hc' (by decide)) (fun k cur hk _ _ => hok k hk), h.ne⟩
theorem HmR.addT {v' : Value} {b : Bool} {w6 : World} (h : HmR sg wo gO D R T vN vT sv SS ok w) (hgr : w.grownBy w6 vT.ownBlock)
    (hown : w6.ownsRow D 4 1 v' ((T ++ [b]).map Value.bool).length ((T ++ [b]).map Value.bool)) : HmR sg wo gO D R (T ++ [b]) vN v' sv SS ok (w6.setCell ⟨gO, 2, none⟩ v') := by
  have hTk : ∀ k, vT.ownBlock = some k → ∃ cs, w.heap[k]? = some (.cells cs 4 (0, 0)) := fun k hk => own_typed h.out.tks hk
  have hS6 : KY w6 D sv SS ok := h.set.grown hgr (fun k hk _ hv => by
    obtain ⟨cs, hc⟩ := h.set.type hv
    obtain ⟨cs', hb⟩ := hTk k hk
    exact ty_ne hc hb (by decide)) (fun k cur hk _ hc => by
    obtain ⟨cs', hb⟩ := hTk k hk
    exact absurd (ty_ne hc hb (by decide)) id)
  have hD := h.out.lt
  exact ⟨h.out.addT hgr hown, hS6.grown (grown_setJ w6 gO 2 v') (fun k hk hd _ => by injection hk with hk; omega) (fun k cur hk hd _ => by injection hk with hk; omega), h.ne⟩
theorem HmR.addN {K : List Int} {KC : List Value} {v' u : Value} {w6 : World} (h : HmR sg wo gO D R T vN vT sv SS ok w) (h1 : KC.length = R.length) (h2 : w.ownsRow D 44 1 vN KC.length KC)
    (h3 : ∀ j, j < R.length → ∃ u, KC[j]? = some u ∧ OwI w D u (ro R j) ∧ ∀ k, u.ownBlock = some k → ok k)
    (hu : OwI w D u K) (hok : ∀ k, u.ownBlock = some k → ok k)
    (hgr : w.grownBy w6 vN.ownBlock) (hl : v'.ownBlock = vN.ownBlock ∨ ∃ g, v'.ownBlock = some g ∧ w.heap.size ≤ g) (hown : w6.ownsRow D 44 1 v' (KC ++ [u]).length (KC ++ [u])) :
    HmR sg wo gO D (R ++ [K]) T v' vT sv SS ok (w6.setCell ⟨gO, 1, none⟩ v') := by
  have hNk : ∀ k, vN.ownBlock = some k → ∃ cs, w.heap[k]? = some (.cells cs 44 (0, 0)) := fun k hk => h.out.rows.type hk
  have hS6 : KY w6 D sv SS ok := h.set.grown hgr (fun k hk _ hv => h.ne k hv hk) (fun k cur hk _ hc => by
    obtain ⟨cs', hb⟩ := hNk k hk
    exact absurd (ty_ne hc hb (by decide)) id)
  have hD := h.out.lt
  refine ⟨h.out.addN h1 h2 h3 hu hok hgr hown, hS6.grown (grown_setJ w6 gO 1 v') (fun k hk hd _ => by injection hk with hk; omega) (fun k cur hk hd _ => by injection hk with hk; omega), fun k hk e => ?_⟩
  rcases hl with e' | ⟨g, e', hg⟩
  · rw [e'] at e; exact h.ne k hk e
  · rw [e'] at e; injection e with e
    have := (h.set.lt hk).2
    omega
theorem HmR.addS {K : List Int} {KC : List Value} {v' u : Value} {w6 : World} (h : HmR sg wo gO D R T vN vT sv SS ok w) (h1 : KC.length = SS.length) (h2 : w.ownsRow D 44 1 sv KC.length KC)
    (h3 : ∀ j, j < SS.length → ∃ u, KC[j]? = some u ∧ OwI w D u (ro SS j) ∧ ∀ k, u.ownBlock = some k → ok k)
    (hu : OwI w D u K) (hok : ∀ k, u.ownBlock = some k → ok k)
    (hgr : w.grownBy w6 sv.ownBlock) (hl : v'.ownBlock = sv.ownBlock ∨ ∃ g, v'.ownBlock = some g ∧ w.heap.size ≤ g) (hown : w6.ownsRow D 44 1 v' (KC ++ [u]).length (KC ++ [u])) :
    HmR sg wo gO D R T vN vT v' (SS ++ [K]) ok w6 := by
  refine ⟨h.out.other hgr fun k hk => ?_, KY.snoc h1 h2 h3 hu hok hown hgr, fun k hk e => ?_⟩
  · obtain ⟨cs, hc⟩ := h.set.type hk
    refine ⟨(h.set.lt hk).1, h.ne k hk, fun e => ?_, fun cur hc' => absurd (ty_ne hc hc' (by decide)) id⟩
    obtain ⟨cs', hc'⟩ := own_typed h.out.tks e
    exact ty_ne hc hc' (by decide)
  · rcases hl with e' | ⟨g, e', hg⟩
    · rw [e'] at hk; exact h.ne k hk e
    · rw [e'] at hk; injection hk with hk
      have := (h.out.rows.lt e).2
      omega
/-- A row of numbers of the call's own stays where rows or truths are added. -/
theorem own_int_rows {v x : Value} {K : List Int} {w6 : World} (hx : OwI w D x K) (hT : v.ownBlock = none ∨ ∀ k, v.ownBlock = some k → ∃ cs, w.heap[k]? = some (.cells cs 44 (0, 0))) (hgr : w.grownBy w6 v.ownBlock) : OwI w6 D x K :=
  own_kept hx hgr fun k hk e => by
    rcases hT with h | h
    · rw [h] at e; cases e
    · obtain ⟨cs, hc⟩ := own_typed hx hk
      obtain ⟨cs', hc'⟩ := h k e
      exact ty_ne hc hc' (by decide)
end
end Go.Proofs.YtchhbnnpannnhaaGreatDoor

namespace Go.Proofs.YtchhbnnpannnhaaGreatDoor
open Go.RowKit IntWalk
section
variable {sg : List UInt8} {wo : World} {gO D : Nat} {R SS : List (List Int)} {T : List Bool} {vN vT sv : Value} {w w' : World}
theorem HmR.addR {rv v' : Value} {row : List Int} {x : Int} (h : HmR sg wo gO D R T vN vT sv SS (fun b => rv.ownBlock ≠ some b) w) (hr : OwI w D rv row) (hg : w.grownBy w' rv.ownBlock) (hl : v'.ownBlock = rv.ownBlock ∨ ∃ g, v'.ownBlock = some g ∧ w.heap.size ≤ g)
    (ho : w'.ownsRow D 3 1 v' (row.map (Value.int .i64) ++ [Value.int .i64 x]).length (row.map (Value.int .i64) ++ [Value.int .i64 x])) :
    HmR sg wo gO D R T vN vT sv SS (fun b => v'.ownBlock ≠ some b) w' ∧ OwI w' D v' (row ++ [x]) := by
  refine ⟨((h.weak (ok' := fun b => rv.ownBlock ≠ some b ∧ v'.ownBlock ≠ some b) (fun b hb hok => ⟨hok, ?_⟩)).int hr hg (fun k hk hok => hok.1 hk)).weak fun b _ h => h.2, by show w'.ownsRow D 3 1 v' _ _; rw [List.map_append]; exact ho⟩
  rcases hl with e | ⟨g, e, hg'⟩
  · rw [e]; exact hok
  · rw [e]; intro e2; injection e2 with e2; omega
theorem own_addR {u rv v' : Value} {K : List Int} (hu : OwI w D u K ∧ ∀ k, u.ownBlock = some k → rv.ownBlock ≠ some k) (hg : w.grownBy w' rv.ownBlock) (hl : v'.ownBlock = rv.ownBlock ∨ ∃ g, v'.ownBlock = some g ∧ w.heap.size ≤ g) :
    OwI w' D u K ∧ ∀ k, u.ownBlock = some k → v'.ownBlock ≠ some k := by
  refine ⟨own_kept hu.1 hg hu.2, fun k hk e2 => ?_⟩
  rcases hl with e | ⟨g, e, hg'⟩
  · rw [e] at e2; exact hu.2 k hk e2
  · rw [e] at e2; injection e2 with e2
    have := (hu.1.lt k hk).2
    omega
end
end Go.Proofs.YtchhbnnpannnhaaGreatDoor
