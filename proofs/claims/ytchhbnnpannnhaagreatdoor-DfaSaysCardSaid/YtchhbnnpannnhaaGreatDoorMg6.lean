/- Texts joined, each with its own conditions. (1) The letters of a sorted row of bytes. No condition. (2) Package re's Signs, package regex, the laws' closed fact: their walks. Condition of the fact: errors.errorType. -/
import Derived.Test.YtchhbnnpannnhaaGreatDoorMg5
import Derived.Test.YtchhbnnpannnhaaGreatDoorRegI
import Derived.Lib.OwnBridge
import Derived.Lib.BufferRead
namespace Go.Proofs.YtchhbnnpannnhaaGreatDoor
open Go.RowKit Go.Lib Go.Sort

/-- What the signs of a tree are. -/
theorem signs_list {l : List UInt8} (s : List UInt8) (hs : l = lets s) : compactUpTo (Sort.insertionSort ltB l.toArray 0 l.toArray.size) (Sort.insertionSort ltB l.toArray 0 l.toArray.size).size = sgs s := by
  obtain ⟨⟨hsz, _, hperm⟩, hsorted⟩ := insertionSort_holds swoB l.toArray 0 l.toArray.size (Nat.zero_le _) (Nat.le_refl _)
  generalize Sort.insertionSort ltB l.toArray 0 l.toArray.size = d at *
  have hmem : ∀ c, c ∈ d.toList ↔ c ∈ l := fun c => by
    have := hperm.mem_iff (a := c)
    have e : l.length = d.toList.length := by simpa using hsz.symm
    simp only [Array.toList_extract, List.extract_eq_take_drop, Nat.sub_zero, List.drop_zero, List.size_toArray, List.take_length] at this
    rw [e, List.take_length] at this
    exact this
  have hle : ∀ i j, i < j → j < d.size → d[i]!.toNat ≤ d[j]!.toNat := fun i j h1 h2 => by
    have := hsorted i j (Nat.zero_le _) h1 (by rw [← hsz]; exact h2)
    unfold ltB at this
    simpa using this
  have hget : ∀ i, i < d.size → d[i]! ∈ d.toList := fun i h => by rw [getElem!_pos d i h]; simp
  refine up_ext _ _ ?_ (sgs_up s) fun c => ?_
  · unfold compactUpTo
    rw [List.pairwise_map]
    refine (List.pairwise_lt_range (n := d.size)).filter _ |>.imp_of_mem ?_
    intro a b ha hb hab
    rw [List.mem_filter] at ha hb
    have hb2 : b < d.size := by simpa using hb.1
    have hk : keeps d b = true := hb.2
    unfold keeps at hk
    have hk2 : d[b]! ≠ d[b - 1]! := by
      rcases of_decide_eq_true hk with h | h
      · omega
      · exact h
    rw [UInt8.lt_iff_toNat_lt]
    have h1 := hle (b - 1) b (by omega) hb2
    have h2 : d[a]!.toNat ≤ d[b - 1]!.toNat := by
      rcases Nat.lt_or_ge a (b - 1) with h | h
      · exact hle a (b - 1) h (by omega)
      · have : a = b - 1 := by omega
        rw [this]; exact Nat.le_refl _
    have h3 : d[b]!.toNat ≠ d[b - 1]!.toNat := fun e => hk2 (UInt8.toNat_inj.1 e)
    omega
  · rw [sgs_mem]
    have hl : c ∈ l ↔ c ∈ s ∧ isLo c = true := by rw [hs]; unfold lets; rw [List.mem_filter]
    rw [← hl, ← hmem]
    unfold compactUpTo
    rw [List.mem_map]
    constructor
    · rintro ⟨j, hj, rfl⟩
      exact hget j (by have := (List.mem_filter.1 hj).1; simpa using this)
    · intro hc
      obtain ⟨i, hi, he⟩ := List.getElem_of_mem hc
      have hi' : i < d.size := by simpa using hi
      -- the first such place
      have key : ∀ n i, i ≤ n → i < d.size → d[i]! = c → ∃ j, j < d.size ∧ keeps d j = true ∧ d[j]! = c := by
        intro n
        induction n with
        | zero =>
          intro i h1 h2 h3
          have : i = 0 := by omega
          subst this
          exact ⟨0, h2, keeps_lt_one d 0 (by omega), h3⟩
        | succ n ih =>
          intro i h1 h2 h3
          by_cases hk : keeps d i = true
          · exact ⟨i, h2, hk, h3⟩
          · have hk' : keeps d i = false := by simpa using hk
            unfold keeps at hk'
            have h4 := of_decide_eq_false hk'
            have h5 : i ≠ 0 := fun e => h4 (.inl e)
            have h6 : d[i]! = d[i - 1]! := Classical.byContradiction fun e => h4 (.inr e)
            exact ih (i - 1) (by omega) (by omega) (h6.symm.trans h3)
      obtain ⟨j, hj, hk, hj2⟩ := key i i (Nat.le_refl _) hi' (by rw [getElem!_pos d i hi']; simpa using he)
      exact ⟨j, List.mem_filter.2 ⟨by simpa using hj, hk⟩, hj2⟩
end Go.Proofs.YtchhbnnpannnhaaGreatDoor

namespace Go.Proofs.YtchhbnnpannnhaaGreatDoor
open Go.RowKit Go.Lib Go.Sort IntWalk
attribute [local go_sem] byte_at str_app

set_option maxHeartbeats 1000000 in
theorem sort_nil (w : World) : Calls Tryz.prog 60 #[.slice none 0 0] w fun e w' => e = .returned (.tuple #[]) ∧ w' = w := by
  have h1 := len_any 0 (by omega) w
  have hi : Calls Tryz.prog 90 #[.slice none 0 0, .int .i64 0, .int .i64 0] w fun e w' => e = .returned (.tuple #[]) ∧ w' = w := by
    go_enter Tryz.func90, Tryz.ntmps90
    go_wp2_with fail
    refine wp_loop_rounds 1 ?_
    rw [rounds_succ]
    go_wp2_with fail
    go_end0
    exact ⟨rfl, rfl⟩
  have hp : ∀ k : Int, Calls Tryz.prog 73 #[.slice none 0 0, .int .i64 0, .int .i64 0, .int .i64 k] w fun e w' => e = .returned (.tuple #[]) ∧ w' = w := fun k => by
    go_enter Tryz.func73, Tryz.ntmps73
    go_wp2_with fail
    refine wp_loop_rounds 1 ?_
    rw [rounds_succ]
    go_wp2_with fail
    refine hi.mono ?_
    rintro e w' ⟨rfl, rfl⟩
    go_wp2_with fail
    refine bodyPost_ret (results_none rfl _ _ _) rfl ?_
    exact ⟨rfl, rfl⟩
  clear hi
  go_enter Tryz.func60, Tryz.ntmps60
  go_wp2_with fail
  refine h1.mono ?_
  rintro e w' ⟨⟨k, rfl⟩, rfl⟩
  go_wp2_with fail
  refine (hp k).mono ?_
  rintro e w' ⟨rfl, rfl⟩
  go_wp2_with fail
  go_end0
  exact ⟨rfl, rfl⟩
set_option maxHeartbeats 400000 in
theorem compact_nil (w : World) : Calls Tryz.prog 61 #[.slice none 0 0] w fun e w' => e = .returned (.slice none 0 0) ∧ w' = w := by
  go_enter Tryz.func61, Tryz.ntmps61
  go_wp2_with fail
  go_ret
  exact ⟨rfl, rfl⟩
theorem sgs_nil (s : List UInt8) (h : lets s = []) : sgs s = [] := by
  have e := signs_list (l := []) s h.symm
  rw [← e]
  have : Sort.insertionSort ltB ([] : List UInt8).toArray 0 ([] : List UInt8).toArray.size = #[] := by
    unfold Sort.insertionSort Sort.insOuter
    simp
  rw [this]; rfl
set_option maxRecDepth 100000 in
set_option maxHeartbeats 2000000 in
theorem signs_any (t : Pt) (g : Nat) (s : List UInt8) (w : World) (hnd : Nd w t g) (hls : leaves t = lets s) (h12 : (leaves t).length ≤ 12) :
    Calls Tryz.prog 44 #[.pointer (bl g)] w fun e w' => e = .returned (S (sgs s)) ∧ Below w.heap.size w w' := by
  have HL := Lib.hid (leaves_any t g w hnd (by omega))
  have HSL : Hid (compactUpTo (Sort.insertionSort ltB (leaves t).toArray 0 (leaves t).toArray.size) (Sort.insertionSort ltB (leaves t).toArray 0 (leaves t).toArray.size).size = sgs s) := Lib.hid (signs_list s hls)
  have HNL : Hid (leaves t = [] → sgs s = []) := Lib.hid fun h => sgs_nil s (by rw [← hls, h])
  generalize leaves t = l at *
  generalize sgs s = R at *
  clear hls hnd
  have hds : (Sort.insertionSort ltB l.toArray 0 l.toArray.size).size = l.length := by
    have := (insertionSort_holds swoB l.toArray 0 l.toArray.size (Nat.zero_le _) (Nat.le_refl _)).1.1
    simpa using this
  go_enter Tryz.func44, Tryz.ntmps44
  go_wp2_with fail
  refine HL.out.mono ?_
  rintro e w1 ⟨⟨v, rfl, ho⟩, hb⟩
  have HB := Lib.hid hb
  clear hb
  by_cases hv : v = .slice none 0 0
  · subst hv
    have hl0 : l = [] := by
      rcases ho.2 with ⟨_, h0⟩ | ⟨_, _, _, e, _⟩
      · exact List.length_eq_zero_iff.1 h0
      · cases e
    have HR : Hid (R = []) := Lib.hid (HNL.out hl0)
    have H1 := Lib.hid (sort_nil w1)
    have H2 := Lib.hid (compact_nil w1)
    have hcv := run_convert_nil_bytes (P := Tryz.prog) w1 64 9 5 0 Tryz.underlying64 Tryz.underlying5 Tryz.underlying9
    clear ho hds HSL HNL hl0
    go_wp2_with fail
    refine H1.out.mono ?_
    rintro e w' ⟨rfl, rfl⟩
    go_wp2_with fail
    refine H2.out.mono ?_
    rintro e w' ⟨rfl, rfl⟩
    go_wp2_with fail
    go_ret
    exact ⟨by rw [HR.out]; rfl, HB.out⟩
  · obtain ⟨gb, cap, rfl, hgb, hglt, hcap, hcm, _, hH⟩ := holds_of_ownsRow ho hv
    have h0 : l.toArray.size = l.length := by simp
    have H1 := Lib.hid (sort_any gb 0 cap l.toArray w1 hH (by simpa using h12))
    generalize hd : Sort.insertionSort ltB l.toArray 0 l.toArray.size = d at *
    have H2 := Lib.hid (fun n => compact_any gb 0 cap d (putRow encB (Sort.ahead w1 n) gb 0 d) (holds_putRow encB _ gb 0 l.toArray d (holds_ahead encB w1 n gb 0 l.toArray hH) (by rw [hds, h0])) (by omega) (by omega))
    have hlen : (compactUpTo d d.size).length ≤ d.size := by
      unfold compactUpTo
      rw [List.length_map]
      refine Nat.le_trans (List.length_filter_le _ _) ?_
      simp
    have hcv : ∀ n q, (convert 64 9 (.slice (some ⟨gb, 0, none⟩) (compactUpTo d d.size).length cap)).run Tryz.prog (putRow encB (Sort.ahead (putRow encB (Sort.ahead w1 n) gb 0 d) q) gb 0 (compactUpTo d d.size ++ List.replicate (d.size - (compactUpTo d d.size).length) 0).toArray) = .ok (.string ⟨(compactUpTo d d.size).toArray⟩) (putRow encB (Sort.ahead (putRow encB (Sort.ahead w1 n) gb 0 d) q) gb 0 (compactUpTo d d.size ++ List.replicate (d.size - (compactUpTo d d.size).length) 0).toArray) := fun n q => by
      refine run_convert_bytes_back _ _ _ 5 ⟨gb, 0, none⟩ cap (compactUpTo d d.size) Tryz.underlying64 Tryz.underlying5 Tryz.underlying9 fun j hj => ?_
      have hh := holds_putRow encB (Sort.ahead (putRow encB (Sort.ahead w1 n) gb 0 d) q) gb 0 d (compactUpTo d d.size ++ List.replicate (d.size - (compactUpTo d d.size).length) 0).toArray (holds_ahead encB _ q gb 0 d (holds_putRow encB _ gb 0 l.toArray d (holds_ahead encB w1 n gb 0 l.toArray hH) (by rw [hds, h0]))) (by simp; omega)
      have := (hh j (by simp; omega)).1
      rw [Addr.add_lit, this]
      rw [getElem!_pos _ j (by simp; omega)]
      simp [hj]
    have HBP : Hid (∀ n q (X : Array UInt8), Below w.heap.size w (putRow encB (Sort.ahead (putRow encB (Sort.ahead w1 n) gb 0 d) q) gb 0 X)) := Lib.hid fun n q X => below_putRow (below_putRow HB.out hgb) hgb
    have HSL2 : Hid (compactUpTo d d.size = R) := HSL
    rw [HSL2.out] at hcv H2
    have hs2 : l.toArray.size = l.length := h0
    rw [hs2] at H1
    rw [hds] at H2
    clear ho hH HSL HNL hd hlen hv
    go_wp2_with fail
    refine H1.out.mono ?_
    rintro e w' ⟨rfl, n, rfl⟩
    have H3 := Lib.hid (H2.out n); have hcv2 := Lib.hid (hcv n); have HBP2 := Lib.hid (HBP.out n)
    clear H2 hcv HBP
    generalize putRow encB (Sort.ahead w1 n) gb 0 d = w2 at *
    go_wp2_with fail
    refine H3.out.mono ?_
    rintro e w3 ⟨rfl, q, rfl⟩
    have hcv3 := hcv2.out q
    have HB3 := Lib.hid (HBP2.out q (R ++ List.replicate (d.size - R.length) 0).toArray)
    rw [hds] at hcv3 HB3
    clear hcv2 HBP2 H3
    generalize putRow encB (Sort.ahead w2 q) gb 0 (R ++ List.replicate (l.length - R.length) 0).toArray = w4 at *
    go_wp2_with fail
    go_ret
    exact ⟨rfl, HB3.out⟩

/-- What package regex answers. -/
def nulO (s : List UInt8) : Bool := match par s with
  | some t => nul t
  | none => false
theorem parsE_le {s : List UInt8} : parsE s = 0 ∨ parsE s = 2 ∨ parsE s = 4 := by
  unfold parsE
  split
  · exact .inr (.inr rfl)
  · split
    · exact .inr (.inl rfl)
    · exact .inl rfl
set_option maxHeartbeats 1000000 in
theorem rnull_any (s : List UInt8) (w : World) (h9 : s.length ≤ 9223372036854775807) :
    Calls Tryz.prog 29 #[S s] w fun e w' => ((parsE s ≠ 0 ∧ e = .returned (.tuple #[.bool false, errV (parsE s)])) ∨ ∃ t, parsE s = 0 ∧ s.length ≤ 12 ∧ par s = some t ∧ e = .returned (.tuple #[.bool (nul t), .nilIface])) ∧ Below w.heap.size w w' := by
  have HP := Lib.hid (parse_any s w h9)
  go_enter Tryz.func29, Tryz.ntmps29
  go_wp2_with fail
  refine HP.out.mono ?_
  rintro e w1 ⟨⟨hne, rfl⟩ | ⟨t, g, h0, h12, ht, rfl, hnd⟩, hb⟩
  · have HB := Lib.hid hb
    have HE := Lib.hid (err_ne hne)
    have HN := Lib.hid hne
    clear hb HP hne
    rw [HE.out]
    go_wp2_with fail
    go_ret2
    first | exact ⟨.inl ⟨HN.out, rfl⟩, HB.out⟩ | exact ⟨.inl ⟨HN.out, by rw [HE.out]; rfl⟩, HB.out⟩
  · have HB := Lib.hid hb
    have HF := Lib.hid (⟨h0, h12, ht⟩ : parsE s = 0 ∧ s.length ≤ 12 ∧ par s = some t)
    have HN := Lib.hid (null_any t g w1 hnd)
    generalize hn : nul t = n at *
    have HNN := Lib.hid hn
    clear hb HP h0 h12 ht hnd hn
    go_wp2_with fail
    refine HN.out.mono ?_
    rintro e w' ⟨rfl, rfl⟩
    go_wp2_with fail
    go_ret2
    exact ⟨.inr ⟨t, HF.out.1, HF.out.2.1, HF.out.2.2, by rw [HNN.out]; rfl⟩, HB.out⟩
theorem res_3 {fn : Func} {t u v : Tmp} (h : fn.results = #[.tmp t, .tmp u, .tmp v]) (tmps : Array Value) (P : Program) (w : World) :
    (results fn tmps).run P w = .ok (.tuple #[tmps.getD t undef, tmps.getD u undef, tmps.getD v undef]) w := by
  simp [results, h]
set_option maxHeartbeats 1000000 in
theorem rsigns_any (s : List UInt8) (w : World) (h9 : s.length ≤ 9223372036854775807) :
    Calls Tryz.prog 27 #[S s] w fun e w' => ((parsE s ≠ 0 ∧ e = .returned (.tuple #[S [], .int .i64 0, errV (parsE s)])) ∨ ∃ t, parsE s = 0 ∧ s.length ≤ 12 ∧ par s = some t ∧ e = .returned (.tuple #[S (sgs s), .int .i64 ((lets s).length : Int), .nilIface])) ∧ Below w.heap.size w w' := by
  have HP := Lib.hid (parse_any s w h9)
  go_enter Tryz.func27, Tryz.ntmps27
  go_wp2_with fail
  refine HP.out.mono ?_
  rintro e w1 ⟨⟨hne, rfl⟩ | ⟨t, g, h0, h12, ht, rfl, hnd⟩, hb⟩
  · have HB := Lib.hid hb
    have HE := Lib.hid (err_ne hne)
    have HN := Lib.hid hne
    clear hb HP hne
    rw [HE.out]
    go_wp2_with fail
    refine bodyPost_ret (res_3 rfl _ _ _) rfl ?_
    first | exact ⟨.inl ⟨HN.out, rfl⟩, HB.out⟩ | exact ⟨.inl ⟨HN.out, by rw [HE.out]; rfl⟩, HB.out⟩
  · have HB := Lib.hid hb
    have HF := Lib.hid (⟨h0, h12, ht⟩ : parsE s = 0 ∧ s.length ≤ 12 ∧ par s = some t)
    have hlv := (par_leaves ht).1
    have hll : (leaves t).length ≤ 12 := by
      rw [hlv]; exact Nat.le_trans (List.length_filter_le _ _) h12
    have HS := Lib.hid (signs_any t g s w1 hnd hlv hll)
    have HL := Lib.hid (fun W (h : Below w1.heap.size w1 W) => leaves_any t g W (hnd.below h) (by omega))
    have HLN : Hid ((leaves t).length = (lets s).length) := Lib.hid (by rw [hlv])
    clear hb HP h0 h12 ht hnd hlv hll
    generalize hsg : sgs s = R at *
    have HSG := Lib.hid hsg
    clear hsg
    generalize leaves t = V at *
    go_wp2_with fail
    refine HS.out.mono ?_
    rintro e w2 ⟨rfl, hb2⟩
    have HB2 := Lib.hid (HB.out.trans (hb2.mono HB.out.size))
    go_wp2_with fail
    refine (HL.out _ hb2).mono ?_
    rintro e w3 ⟨⟨v, rfl, ho⟩, hb3⟩
    obtain ⟨A3, c3, rfl, _⟩ := own_shape ho
    have HB3 := Lib.hid (HB2.out.trans (hb3.mono HB2.out.size))
    clear ho hb2 hb3
    go_wp2_with fail
    refine bodyPost_ret (res_3 rfl _ _ _) rfl ?_
    exact ⟨.inr ⟨t, HF.out.1, HF.out.2.1, HF.out.2.2, by rw [← HLN.out, HSG.out]; rfl⟩, HB3.out⟩
/-! ### The closed fact -/
theorem par1 : par [97, 42, 124, 98] = some (.alt (.str (.sgn 97 0)) (.sgn 98 1)) := by rfl
theorem par2 : par [98, 97, 124, 97] = some (.alt (.seq (.sgn 98 0) (.sgn 97 1)) (.sgn 97 2)) := by rfl
theorem par3 : par [40, 97] = none := by rfl
theorem par4 : par [42] = none := by rfl
theorem sgs2 : sgs [98, 97, 124, 97] = [97, 98] := by rfl
theorem lets2 : (lets [98, 97, 124, 97]).length = 3 := by rfl
theorem parsE_of {s : List UInt8} {t : Pt} (h12 : s.length ≤ 12) (h : par s = some t) : parsE s = 0 := by
  unfold parsE; rw [if_neg (by omega), h]
theorem parsE_no {s : List UInt8} (h12 : s.length ≤ 12) (h : par s = none) : parsE s = 2 := by
  unfold parsE; rw [if_neg (by omega), h]
theorem parsE_long {s : List UInt8} (h12 : 12 < s.length) : parsE s = 4 := if_pos h12
theorem parsE_some {s : List UInt8} (h : parsE s = 0) : s.length ≤ 12 ∧ ∃ t, par s = some t := by
  unfold parsE at h
  by_cases h12 : 12 < s.length
  · rw [if_pos h12] at h; exact absurd h (by decide)
  · rw [if_neg h12] at h
    cases hp : par s with
    | none => rw [hp] at h; exact absurd h (by decide)
    | some t => exact ⟨by omega, t, rfl⟩
end Go.Proofs.YtchhbnnpannnhaaGreatDoor
