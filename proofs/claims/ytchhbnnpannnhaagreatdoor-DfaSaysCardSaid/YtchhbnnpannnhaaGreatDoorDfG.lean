/- dfa.Of at a pattern that can be read. No condition. -/
import Derived.Test.YtchhbnnpannnhaaGreatDoorMg10
namespace Go.Proofs.YtchhbnnpannnhaaGreatDoor
open Go.RowKit IntWalk Go.Maps
set_option linter.unusedSimpArgs false
set_option linter.unusedVariables false
attribute [local go_sem] byte_at str_app
attribute [local go_sem ↓] Go.wp_at_zero Go.wp_at_succ

theorem nd_lenD : ∀ (xs ys : List UInt8), xs.Nodup → (∀ c ∈ xs, c ∈ ys) → xs.length ≤ ys.length
  | [], ys, _, _ => Nat.zero_le _
  | x :: xs, ys, hn, hs => by
    rw [List.nodup_cons] at hn
    have hx : x ∈ ys := hs x (by simp)
    have h1 := nd_lenD xs (ys.erase x) hn.2 (fun c hc => by
      rw [List.mem_erase_of_ne (show c ≠ x from fun e => hn.1 (e ▸ hc))]; exact hs c (by simp [hc]))
    rw [List.length_erase_of_mem hx] at h1
    have h2 := List.length_pos_of_mem hx
    rw [List.length_cons]; omega
theorem sgs_lenD (l : List UInt8) : (sgs l).length ≤ (lets l).length :=
  nd_lenD _ _ ((sgs_up l).imp fun h e => by subst e; exact absurd h (UInt8.lt_irrefl _)) fun c hc => by
    obtain ⟨h1, h2⟩ := sgs_mem.1 hc
    exact List.mem_filter.2 ⟨h1, h2⟩
/-- What lies ahead of the machine that is being made. -/
structure DfX (t : Pt) (B g gA : Nat) (A1 A2 A3 Av : Option Addr) (cv : Nat) (W : World) : Prop where
  fst : Ints W B A1 (srt (leaves t).length (fsP t)).length (zs (srt (leaves t).length (fsP t)))
  lst : Ints W B A2 (srt (leaves t).length (lsP t)).length (zs (srt (leaves t).length (lsP t)))
  nxt : Rws W B A3 (leaves t).length (nxL (leaves t).length t)
  at_ : W.cell? ⟨gA, 0, none⟩ = some (.slice Av (leaves t).length cv)
  sgn : ∀ i, i < (leaves t).length → ∃ gs, Av = some ⟨gs, 0, none⟩ ∧ gs < gA ∧ W.cell? ⟨gs, i, none⟩ = some (.int .u8 ((bu (leaves t) i).toNat : Int))
  res : W.heap[g]? = some (.cells #[S [], .slice none 0 0, .slice none 0 0] 25 (0, 0))
  lt : B ≤ gA ∧ g < B
theorem DfX.below {t : Pt} {B g gA cv : Nat} {A1 A2 A3 Av : Option Addr} {W W' : World} (h : DfX t B g gA A1 A2 A3 Av cv W) {B' : Nat} (hb : Below B' W W') (hB : gA < B') : DfX t B g gA A1 A2 A3 Av cv W' := by
  obtain ⟨h1, h2⟩ := h.lt
  refine ⟨h.fst.below (hb.mono (by omega)), h.lst.below (hb.mono (by omega)), h.nxt.below (hb.mono (by omega)), (hb.cell (p := ⟨gA, 0, none⟩) hB).trans h.at_, fun i hi => ?_, (hb.block g (by omega)).trans h.res, h.lt⟩
  obtain ⟨gs, e, hlt, hc⟩ := h.sgn i hi
  exact ⟨gs, e, hlt, (hb.cell (p := ⟨gs, i, none⟩) (show gs < B' by omega)).trans hc⟩
theorem DfX.fr {t : Pt} {B g gA cv gt : Nat} {A1 A2 A3 Av : Option Addr} {W W' : World} (h : DfX t B g gA A1 A2 A3 Av cv W) (hf : Fr1 gt W W') (h1 : gA < gt) : DfX t B g gA A1 A2 A3 Av cv W' :=
  h.below (hf.below (show gA + 1 ≤ gt by omega) (by have := World.block_lt_of_cell? W _ h.at_; exact this)) (by omega)
theorem follow_at {t : Pt} {B g gA cv gc gt T : Nat} {A1 A2 A3 Av : Option Addr} {c : UInt8} {W : World} (hX : DfX t B g gA A1 A2 A3 Av cv W) (hc : W.cell? ⟨gc, 0, none⟩ = some (.int .u8 (c.toNat : Int))) (ht : Blk W gt 3 [.int .i64 (T : Int)])
    (hT : T < 2 ^ 12) (h1 : gA < gt) (h2 : gc ≠ gt) (h12 : (leaves t).length ≤ 12) (A : Option Addr) (m c0 : Nat) (L : List Nat) (hL : Ints W B A m (zs L)) (hn : ∀ x ∈ L, x < (leaves t).length) (hm : m ≤ 100000) :
    Calls Tryz.prog 31 #[.slice A m c0, .pointer (some ⟨gA, 0, none⟩), .pointer (some ⟨gc, 0, none⟩), .pointer (some ⟨gt, 0, none⟩)] W fun e w' => e = .returned (.tuple #[]) ∧ Blk w' gt 3 [.int .i64 (flw (leaves t) c T L : Int)] ∧ Fr1 gt W w' :=
  follow_any A m c0 B L Av cv gA gc gt T (leaves t) c W hL hn h12 hX.at_ (fun i hi => by
    obtain ⟨gs, e, hlt, hcc⟩ := hX.sgn i hi
    exact ⟨gs, e, by omega, hcc⟩) hc ht hT (by omega) h2 (by have := hX.lt.1; omega) hm
theorem toF_zero (t : Pt) (c : UInt8) (m : Nat) : toF t c m 0 = if m = beg then flw (leaves t) c 0 (srt (leaves t).length (fsP t)) else 0 := by
  unfold toF; rw [to_beg]; rfl
theorem toF_yes {t : Pt} {c : UInt8} {m k : Nat} (hb : m ≠ beg) (h : m.testBit k = true) : toF t c m (k + 1) = flw (leaves t) c (toF t c m k) (nxN (leaves t).length t k) := by
  unfold toF; rw [if_neg hb, if_neg hb]
  show (if m.testBit k = true then _ else _) = _
  rw [if_pos h]
theorem toF_no {t : Pt} {c : UInt8} {m k : Nat} (h : ¬ m.testBit k = true) : toF t c m (k + 1) = toF t c m k := by
  unfold toF
  split
  · rfl
  · show (if m.testBit k = true then _ else _) = _
    rw [if_neg h]
theorem toF_lt {t : Pt} (h12 : (leaves t).length ≤ 12) {c : UInt8} {m : Nat} (k : Nat) : toF t c m k < 2 ^ 12 := by
  unfold toF
  split
  · exact toM_lt h12
  · exact nxF_lt h12 k
theorem MetD.at_or {n a : Nat} {met : List Nat} (h : MetD n met) (ha : a < met.length) : met.getD a 0 = beg ∨ met.getD a 0 < 2 ^ n := by
  have hm : met.getD a 0 ∈ met := by rw [List.getD_eq_getElem?_getD, List.getElem?_eq_getElem ha]; exact List.getElem_mem ha
  obtain ⟨l, e, hl⟩ := h.fst
  generalize met.getD a 0 = z at *
  rw [e] at hm
  rcases List.mem_cons.1 hm with h | h
  · exact .inl h
  · exact .inr (hl _ h)
theorem srt_lenD (n : Nat) (L : List Nat) : (srt n L).length ≤ n := by unfold srt; exact Nat.le_trans (List.length_filter_le _ _) (by simp)
set_option maxRecDepth 100000 in
set_option maxHeartbeats 8000000 in
theorem dfaOf_ok (s : List UInt8) (t : Pt) (w : World) (h12 : s.length ≤ 12) (h0 : parsE s = 0) (ht : par s = some t) :
    Calls Tryz.prog 11 #[S s] w fun e w' => (∃ A' k' A2' k2', e = .returned (.tuple #[mcv (sgs s) A' (dfM t (sgs s)).n k' A2' (dfM t (sgs s)).n k2', .nilIface]) ∧ MacW w' w'.heap.size A' (dfM t (sgs s)).n A2' (dfM t (sgs s)).n (dfM t (sgs s))) ∧ Below w.heap.size w w' := by
  obtain ⟨M, hM⟩ : ∃ M, M = dfM t (sgs s) := ⟨_, rfl⟩
  rw [← hM]
  have HM := Lib.hid hM
  clear hM
  have hmm := @run_makeMap Tryz.prog
  obtain ⟨i0, hi0, hz0, hz1, hz2⟩ := info_parts info_intL
  obtain ⟨i1, hi1, hy0, hy1, hy2⟩ := info_parts info_rowsL
  obtain ⟨i2, hi2, hx0, hx1, hx2⟩ := info_parts info_boolL
  have h9 : s.length ≤ 9223372036854775807 := by omega
  have hsg12 : (sgs s).length ≤ 12 := Nat.le_trans (sgs_lenD s) (Nat.le_trans (lets_len s) h12)
  obtain ⟨q1, q2⟩ := par_leaves ht
  have hn12 : (leaves t).length ≤ 12 := by rw [q1]; exact Nat.le_trans (lets_len s) h12
  have hmk := fun W => mk_ints (P := Tryz.prog) Tryz.underlying44 hi0 hz0 hz1 rfl (by omega) (sgs s).length (by omega) W
  have hcs := conv_str (sgs s)
  have HCS := Lib.hid hcs
  have HS : Hid (∀ W, Calls Tryz.prog 27 #[S s] W fun e w' => e = .returned (.tuple #[S (sgs s), .int .i64 ((leaves t).length : Int), .nilIface]) ∧ Below W.heap.size W w') := Lib.hid fun W => (rsigns_any s W h9).mono fun e w' h => by
    refine ⟨?_, h.2⟩
    rcases h.1 with ⟨hne, _⟩ | ⟨_, _, _, _, e1⟩
    · exact absurd h0 hne
    · rw [e1, q1]
  have HN : Hid (∀ W, Calls Tryz.prog 28 #[S s] W fun e w' => (∃ (A1 A2 A3 : Option Addr) (c1 c2 c3 : Nat),
      e = .returned (.tuple #[.slice A1 (srt (leaves t).length (fsP t)).length c1, .slice A2 (srt (leaves t).length (lsP t)).length c2, .slice A3 (leaves t).length c3, .nilIface]) ∧
      Ints w' w'.heap.size A1 (srt (leaves t).length (fsP t)).length (zs (srt (leaves t).length (fsP t))) ∧ Ints w' w'.heap.size A2 (srt (leaves t).length (lsP t)).length (zs (srt (leaves t).length (lsP t))) ∧ Rws w' w'.heap.size A3 (leaves t).length (nxL (leaves t).length t)) ∧ Below W.heap.size W w') := Lib.hid fun W => (ofR_any s W h9).mono fun e w' h => by
    refine ⟨?_, h.2⟩
    rcases h.1 with ⟨hne, _⟩ | ⟨t', A1, A2, A3, c1, c2, c3, _, _, ht', e1, i1, i2, i3⟩
    · exact absurd h0 hne
    · rw [ht] at ht'
      obtain rfl := Option.some.inj ht'
      exact ⟨A1, A2, A3, c1, c2, c3, e1, i1, i2, i3⟩
  have HU : Hid (∀ W, Calls Tryz.prog 29 #[S s] W fun e w' => e = .returned (.tuple #[.bool (nul t), .nilIface]) ∧ Below W.heap.size W w') := Lib.hid fun W => (rnull_any s W h9).mono fun e w' h => by
    refine ⟨?_, h.2⟩
    rcases h.1 with ⟨hne, _⟩ | ⟨t', _, _, ht', e1⟩
    · exact absurd h0 hne
    · rw [ht] at ht'
      obtain rfl := Option.some.inj ht'
      exact e1
  have HG : Hid (∀ W, Calls Tryz.prog 30 #[S s] W fun e w' => (∃ v, e = .returned v ∧ OwnB w' W.heap.size v (leaves t)) ∧ Below W.heap.size W w') := Lib.hid fun W => by rw [q1]; exact signsOf_any s W (by omega)
  have HSM : Hid (Sm (leaves t).length t) := Lib.hid (Sm.of_num q2 (Nat.le_of_eq (by rw [q1])))
  clear q1 q2 hcs h0 ht h9
  generalize sgs s = sg at *
  have HB1 := Lib.hid ((Below.refl w.heap.size w).alloc (Nat.le_refl _) (.cells #[S [], .slice none 0 0, .slice none 0 0] 25))
  have HR1 : Hid ((w.alloc (.cells #[S [], .slice none 0 0, .slice none 0 0] 25)).heap[w.heap.size]? = some (.cells #[S [], .slice none 0 0, .slice none 0 0] 25 (0, 0))) := Lib.hid (heap_alloc_new w _)
  have HZ1 : Hid ((w.alloc (.cells #[S [], .slice none 0 0, .slice none 0 0] 25)).heap.size = w.heap.size + 1) := Lib.hid (by simp)
  go_enter Tryz.func11, Tryz.ntmps11
  go_wp2_with fail
  generalize w.alloc (.cells #[S [], .slice none 0 0, .slice none 0 0] 25) = w1 at *
  refine (HS.out _).mono ?_
  rintro e w2 ⟨rfl, hb2⟩
  have HB2 := Lib.hid (HB1.out.trans (hb2.mono HB1.out.size))
  have HR2 : Hid (w2.heap[w.heap.size]? = some (.cells #[S [], .slice none 0 0, .slice none 0 0] 25 (0, 0)) ∧ w.heap.size < w2.heap.size) := Lib.hid ⟨(hb2.block w.heap.size (by rw [HZ1.out]; omega)).trans HR1.out, by have := hb2.size; have := HZ1.out; omega⟩
  clear hb2 HB1 HR1 HZ1 HS
  go_wp2_with fail
  refine (HN.out _).mono ?_
  rintro e w3 ⟨⟨A1, A2, A3, c1, c2, c3, rfl, i1, i2, i3⟩, hb3⟩
  have HB3 := Lib.hid (HB2.out.trans (hb3.mono HB2.out.size))
  have HI3 := Lib.hid (And.intro i1 (And.intro i2 (And.intro i3 (And.intro ((hb3.block w.heap.size HR2.out.2).trans HR2.out.1) (Nat.lt_of_lt_of_le HR2.out.2 hb3.size)))))
  clear hb3 HB2 HR2 i1 i2 i3 HN
  go_wp2_with fail
  refine (HU.out _).mono ?_
  rintro e w4 ⟨rfl, hb4⟩
  have HB4 := Lib.hid (HB3.out.trans (hb4.mono HB3.out.size))
  have HI4 : Hid (Ints w4 w3.heap.size A1 (srt (leaves t).length (fsP t)).length (zs (srt (leaves t).length (fsP t))) ∧ Ints w4 w3.heap.size A2 (srt (leaves t).length (lsP t)).length (zs (srt (leaves t).length (lsP t))) ∧ Rws w4 w3.heap.size A3 (leaves t).length (nxL (leaves t).length t) ∧ w4.heap[w.heap.size]? = some (.cells #[S [], .slice none 0 0, .slice none 0 0] 25 (0, 0)) ∧ w.heap.size < w3.heap.size ∧ w3.heap.size ≤ w4.heap.size) := by
    obtain ⟨a, b, c, d, e⟩ := HI3.out
    exact Lib.hid ⟨a.below hb4, b.below hb4, c.below hb4, (hb4.block _ e).trans d, e, hb4.size⟩
  clear hb4 HB3 HI3 HU
  go_wp2_with fail
  refine (HG.out _).mono ?_
  rintro e w5 ⟨⟨v, rfl, ho⟩, hb5⟩
  have HB5 := Lib.hid (HB4.out.trans (hb5.mono HB4.out.size))
  obtain ⟨Av, cv, rfl, _⟩ := own_shape ho
  have HX6 : Hid (DfX t w3.heap.size w.heap.size w5.heap.size A1 A2 A3 Av cv (w5.alloc (.cells #[.slice Av (leaves t).length cv] 64))) := Lib.hid (by
    obtain ⟨a, b, c, d, e, f⟩ := HI4.out
    have h54 := hb5.size
    have hbb : Below w4.heap.size w4 (w5.alloc (.cells #[.slice Av (leaves t).length cv] 64)) := hb5.alloc (by omega) _
    refine ⟨a.below (hbb.mono f), b.below (hbb.mono f), c.below (hbb.mono f), cell_of_row _ _ 0 _ _ (0, 0) (heap_alloc_new w5 _), fun i hi => ?_, (hbb.block _ (by omega)).trans d, by omega, e⟩
    obtain ⟨g', cap', e1, _, hlt⟩ := World.ownsRow.form ho (by omega)
    injection e1 with e1 _ _
    refine ⟨g', e1, hlt, ?_⟩
    have := World.ownsRow.cells ho (g := g') (by rw [e1]; rfl) i (.int .u8 ((bu (leaves t) i).toNat : Int)) (by unfold bcells; rw [List.getElem?_map, List.getElem?_eq_getElem hi, bu_eq hi]; rfl)
    rw [Addr.add_lit, Nat.zero_add] at this
    exact (World.cell?_alloc_lt w5 _ ⟨g', i, none⟩ hlt).trans this)
  have HB6 := Lib.hid (HB5.out.alloc HB5.out.size (.cells #[.slice Av (leaves t).length cv] 64))
  have HZ6 : Hid (w5.heap.size < (w5.alloc (.cells #[.slice Av (leaves t).length cv] 64)).heap.size) := Lib.hid (by simp)
  clear hb5 HB5 HI4 HB4 ho HG
  go_upto_region 12 with fail
  generalize w5.alloc (.cells #[.slice Av (leaves t).length cv] 64) = w6 at *
  generalize w5.heap.size = gA at *
  generalize w3.heap.size = B at *
  have HLL : Hid (∀ x ∈ srt (leaves t).length (lsP t), x < (leaves t).length) := Lib.hid (fun x h => (mem_srt.1 h).1)
  have HLN := Lib.hid (srt_lenD (leaves t).length (lsP t))
  have HE : Hid (endsM t = if nul t = true then orL (srt (leaves t).length (lsP t)) ||| beg else orL (srt (leaves t).length (lsP t))) := Lib.hid rfl
  have HL6 := Lib.hid HX6.out.lst
  generalize srt (leaves t).length (lsP t) = LL at *
  generalize nul t = nb at *
  go_wp2_with fail
  go_loopg [12, 61] LL.length (fun f ev iv wr => ∃ k : Nat, k + f = LL.length ∧ iv = .int .i64 (k : Int) ∧ ev = .int .i64 (orL (LL.take k) : Int) ∧ w6 = wr)
  case atStart => exact ⟨0, by omega, rfl, rfl, rfl⟩
  case round =>
    obtain ⟨k, hkf, rfl, rfl, rfl⟩ := hrel
    by_cases hk : k < LL.length
    · obtain ⟨f, rfl⟩ : ∃ f, gk = f + 1 := ⟨gk - 1, by omega⟩
      obtain ⟨x, hx⟩ : ∃ x, LL[k]? = some x := ⟨_, List.getElem?_eq_getElem hk⟩
      have hxn := HLL.out x (List.mem_of_getElem? hx)
      obtain ⟨b1, o1, rfl, hb1, hcx⟩ := HL6.out.at_ hk
      rw [gi_zs hx] at hcx
      have HST : Hid (orL (LL.take (k + 1)) = orL (LL.take k) ||| 2 ^ x) := Lib.hid (by rw [List.take_add_one, hx]; exact orL_snoc _ _)
      have hlt : orL (LL.take k) < 2 ^ 12 := orL_lt fun j hj => Nat.lt_of_lt_of_le (HLL.out j (List.mem_of_mem_take hj)) hn12
      have hor := or_sh (x := x) hlt (by omega)
      have z1 : (k : Int) < (LL.length : Int) := by omega
      have z2 : (x : Int) < ((leaves t).length : Int) := by omega
      have z3 : IntKind.i64.wrap ((k : Int) + 1) = (k : Int) + 1 := IntWalk.i64_in _ (by have := HLN.out; omega)
      generalize orL (LL.take k) = U at *
      clear hx
      go_wp2_with fail
      go_roundg f
      case measure => omega
      case rel => exact ⟨k + 1, by omega, by simp, by rw [HST.out], rfl⟩
    · obtain rfl : k = LL.length := by omega
      rw [List.take_length]
      have hlt : orL LL < 2 ^ 12 := orL_lt fun j hj => Nat.lt_of_lt_of_le (HLL.out j hj) hn12
      have hor2 : bits .or .i64 (orL LL : Int) 1048576 = ((orL LL ||| beg : Nat) : Int) := or_i64 (b := 1048576) (by omega) (by decide)
      generalize orL LL = E0 at *
      go_upto_if 70 with fail
      go_cut [12] from 70 to 72 (fun ev wx => ev = .int .i64 (endsM t : Int) ∧ w6 = wx)
      case first =>
        cases nb
        · have HE2 : Hid (endsM t = E0) := Lib.hid (by rw [HE.out, if_neg (by decide)])
          go_wp2_with fail
          go_meet
          exact ⟨by rw [HE2.out], rfl⟩
        · have HE2 : Hid (endsM t = E0 ||| beg) := Lib.hid (by rw [HE.out, if_pos rfl])
          go_wp2_with fail
          go_meet
          exact ⟨by rw [HE2.out], rfl⟩
      case rest =>
        obtain ⟨rfl, rfl⟩ := hcut
        clear HE hlt hor2 HLL HLN HL6 hkf
        have HEN : Hid ((∀ m, m = beg ∨ m < 2 ^ (leaves t).length → decide (m &&& endsM t ≠ 0) = tkM t m) ∧ endsM t < 2097152) := Lib.hid ⟨fun m hm => tk_eq hn12 hm, endsM_lt hn12⟩
        generalize endsM t = En at *
        obtain ⟨C, hC⟩ := exC
        have HC := Lib.hid hC
        clear hC
        have hown0 : ((w6.alloc (.cells #[S sg, .slice none 0 0, .slice none 0 0] 25)).alloc (.map #[] 0)).ownsMap Tryz.prog 3 PE (w6.heap.size + 1) 0 (.map []) := by
          have := World.ownsMap_made (w6.alloc (.cells #[S sg, .slice none 0 0, .slice none 0 0] 25)) Tryz.prog 3 PE
          rwa [World.size_alloc] at this
        have HOUT0 : Hid (((w6.alloc (.cells #[S sg, .slice none 0 0, .slice none 0 0] 25)).alloc (.map #[] 0)).heap[w6.heap.size]? = some (.cells #[S sg, .slice none 0 0, .slice none 0 0] 25 (0, 0))) := Lib.hid (((World.grownBy_alloc (w6.alloc (.cells #[S sg, .slice none 0 0, .slice none 0 0] 25)) (.map #[] 0) none).block w6.heap.size (by simp) (by simp)).trans (heap_alloc_new w6 _))
        have HB0 := Lib.hid (((Below.refl w6.heap.size w6).alloc (Nat.le_refl _) (.cells #[S sg, .slice none 0 0, .slice none 0 0] 25)).alloc (by simp) (.map #[] 0))
        have HS0 : Hid (((w6.alloc (.cells #[S sg, .slice none 0 0, .slice none 0 0] 25)).alloc (.map #[] 0)).heap.size = w6.heap.size + 2) := Lib.hid (by simp)
        have HOW0 := Lib.hid hown0
        have hwf0 : (Lit.int .i64 1048576).wf = true := by decide
        clear hown0
        go_wp2_with (refine wpList_insert_own _ rfl _ _ _ 66 rfl 3 3 lawI Tryz.underlying66 PE (w6.heap.size + 1) 0 _ rfl HOW0.out (by decide) _ _ _ rfl rfl (keyOf_int_mk Tryz.underlying3 hwf0) _ [] (plainElem_int Tryz.underlying3 (by decide)) ?_; intro w7 hown7 hgr7)
        have hst : OfR ⟨sg, [], []⟩ C w6 w6.heap.size (w6.heap.size + 2) 0 [beg] [] [] (.slice (some ⟨w7.heap.size, 0, none⟩) 1 1) (.slice none 0 0) (.slice none 0 0) (fun b => (Value.slice (some ⟨w7.heap.size, 0, none⟩) 1 1).ownBlock ≠ some b) (w7.alloc (.cells #[.int .i64 1048576] 3)) := by
          have hz := HS0.out
          have h7 : w6.heap.size + 2 ≤ w7.heap.size := by rw [← HS0.out]; exact hgr7.size
          have hlow := HB0.out.grown hgr7 (by show w6.heap.size ≤ _; rw [HS0.out]; omega) (fun k hk => by injection hk with hk; omega)
          refine ⟨⟨w7.heap.size, 0, 1, #[.int .i64 1048576], rfl, by omega, heap_alloc_new w7 _, Nat.le_refl _, by simp, fun j hj => ?_⟩, ?_, KZ.nil _ _ _, World.ownsRow_nil _ _ _ _, ?_, hlow.alloc (by omega) _, fun b hb h => h hb, rfl⟩
          · obtain rfl : j = 0 := by simpa using hj
            rfl
          · exact ((World.grownBy_alloc w7 _ none).block w6.heap.size (by omega) (by simp)).trans ((hgr7.block w6.heap.size (by show w6.heap.size < ((w6.alloc (.cells #[S sg, .slice none 0 0, .slice none 0 0] 25)).alloc (.map #[] 0)).heap.size; rw [HS0.out]; omega) (by simp)).trans HOUT0.out)
          · have e : mapD (clM C [beg]) [beg].length = (DataW.map []).put (.int .i64 1048576) (.lit (.int .i64 0)) := by
              show (DataW.map []).put (.int .i64 (clM C [beg] 0)) (.lit (.int .i64 ((0 : Nat) : Int))) = _
              have : clM C [beg] 0 = 1048576 := HC.out beg (by decide)
              rw [this]; rfl
            rw [e]
            exact hown7.alloc _
        have HST : Hid (OfR ⟨sg, [], []⟩ C w6 w6.heap.size (w6.heap.size + 2) 0 (dfb t sg 0).met (dfb t sg 0).rows (dfb t sg 0).tks (.slice (some ⟨w7.heap.size, 0, none⟩) 1 1) (.slice none 0 0) (.slice none 0 0) (fun b => (Value.slice (some ⟨w7.heap.size, 0, none⟩) 1 1).ownBlock ≠ some b) (w7.alloc (.cells #[.int .i64 1048576] 3))) := Lib.hid (by rw [show dfb t sg 0 = ⟨[beg], [], []⟩ by rw [dfb]]; exact hst)
        clear hst hown7 hgr7 HB0 HOUT0 HOW0 HS0 hwf0 hmm
        generalize hDD : w6.heap.size + 2 = D at *
        have HDD := Lib.hid hDD
        clear hDD
        go_loopg [17] 4097 (fun f qv wr => ∃ (a : Nat) (vN vT : Value), a + f = 4097 ∧ Hid (OfR ⟨sg, [], []⟩ C w6 w6.heap.size D a (dfb t sg a).met (dfb t sg a).rows (dfb t sg a).tks qv vN vT (fun b => qv.ownBlock ≠ some b) wr))
        case atStart => exact ⟨0, _, _, by omega, HST⟩
        case round =>
          clear HST
          obtain ⟨a, vN, vT, haf, HR⟩ := hrel
          have hok := dfb_ok t sg a
          by_cases ha : a < (dfb t sg a).met.length
          · have hle := hok.met.len hn12
            obtain ⟨f, rfl⟩ : ∃ f, gk = f + 1 := ⟨gk - 1, by omega⟩
            have HOK := Lib.hid hok
            have hstp := dfb_succ t sg a
            rw [if_pos ha] at hstp
            have HSTP := Lib.hid hstp
            have hdr : (dfb t sg a).met.drop a = (dfb t sg a).met.getD a 0 :: (dfb t sg a).met.drop (a + 1) := by
              rw [List.drop_eq_getElem_cons ha, List.getD_eq_getElem?_getD, List.getElem?_eq_getElem ha]; rfl
            have him := hok.met.at_or ha
            have hib : (dfb t sg a).met.getD a 0 ≤ 1048576 := hok.met.at_le hn12 a
            clear hok hle hstp
            generalize hp : dfb t sg a = p at *
            obtain ⟨met, rows, tks⟩ := p
            simp only [] at *
            generalize met.getD a 0 = i at *
            have hx := HR.out
            have hque := hx.que
            rw [hdr, List.map_cons] at hque
            generalize hxs : (met.drop (a + 1)).map (fun x : Nat => (x : Int)) = xs at *
            obtain ⟨gq, oq, cq, hqv, hq0⟩ := hque.head
            subst hqv
            obtain ⟨AT, cT, hvT, _⟩ := own_shape hx.tks
            subst hvT
            obtain ⟨AN, cN, hvN⟩ := hx.rows.shape
            subst hvN
            have HLOW := Lib.hid hx.low
            obtain ⟨d0, d1, d2, f0, f1, f2⟩ := three_atL hx.out
            have hml : met.length ≤ 4097 := HOK.out.met.len hn12
            have HTL : Hid ((tks.map Value.bool).length ≤ 5000) := Lib.hid (by rw [List.length_map]; have h1 : tks.length = min a met.length := HOK.out.tl; omega)
            generalize hTV : tks.map Value.bool = TV at *
            have HTV := Lib.hid hTV
            have HDR := Lib.hid hdr; have HXS := Lib.hid hxs; have HIM := Lib.hid him; have HQ0 := Lib.hid hque; have HIB := Lib.hid hib
            have HA := Lib.hid ha
            have p1 : (0 : Int) < (xs.length : Int) + 1 := by omega
            have HTK := Lib.hid (show wr.ownsRow D 4 1 (.slice AT TV.length cT) TV.length TV by have h := hx.tks; rw [hTV] at h; exact h)
            have hand : bits .and .i64 (i : Int) (En : Int) = ((i &&& En : Nat) : Int) := and_i64 (by omega) HEN.out.2
            have hbv := HEN.out.1 i him
            have hb1 : (((i &&& En : Nat) : Int) != 0) = tkM t i := by
              rw [← hbv]
              by_cases h : i &&& En = 0
              · rw [h]; rfl
              · simp [h]
            have hb2 : ((i &&& En : Nat) != 0) = tkM t i := by
              rw [← hbv]
              by_cases h : i &&& En = 0
              · rw [h]; rfl
              · simp [h]
            generalize hzz : i &&& En = z at *
            generalize hbvv : tkM t i = bv at *
            have HBV := Lib.hid hbvv
            clear hque hdr hxs hx hp ha hbv hzz hTV hbvv him hib
            have hDw : D ≤ wr.heap.size := by have h2 : D ≤ gq ∧ gq < wr.heap.size := HR.out.que.lt (g := gq) rfl; omega
            have hgOD : w6.heap.size + 2 = D := HDD.out
            go_upto_region 25 with fail
            go_wp2_with (at_builtin; refine wpList_append1g rfl (.tmp 87) (.tmp 92) _ rfl 4 i2 _ Tryz.underlying23 hi2 hx0 hx1 (by omega) rfl D (.slice AT TV.length cT) TV (.bool bv) rfl rfl rfl HTK.out (by have := HTL.out; omega) hDw ?_; intro v2 w8 hown2 hgr2 hloc2; obtain ⟨Av2, nv2, cv2, ev2⟩ : ∃ A n c, v2 = .slice A n c := (by obtain ⟨A', c', e, _⟩ := own_shape hown2; exact ⟨A', _, c', e⟩); subst ev2; have hOb : w8.heap[w6.heap.size]? = wr.heap[w6.heap.size]? := hgr2.block _ (by omega) (fun e => by have h1 := own_lt HTK.out e.symm; omega); have s5 : w8.cell? ⟨w6.heap.size, 2, none⟩ = some (.slice AT TV.length cT) := (World.cell?_of_block (a := ⟨w6.heap.size, 2, none⟩) hOb).trans d2; have s6 : w8.frozen? ⟨w6.heap.size, 2, none⟩ = false := (World.frozen?_of_block (a := ⟨w6.heap.size, 2, none⟩) hOb).trans f2)
            have hsz9 : (w8.setCell ⟨w6.heap.size, 2, none⟩ (.slice Av2 nv2 cv2)).heap.size = w8.heap.size := by simp [World.setCell]
            have hR9 := HR.out.addT (b := bv) hgr2 hloc2 (by rw [List.map_append, HTV.out]; exact hown2)
            have hw8 : wr.heap.size ≤ w8.heap.size := hgr2.size
            have hgq : gq < wr.heap.size := (HR.out.que.lt (g := gq) rfl).2
            have hNlt : ∀ k, (Value.slice AN rows.length cN).ownBlock = some k → k < w8.heap.size := fun k hk => by have := (HR.out.rows.lt hk).2; omega
            have hTlt : ∀ k, (Value.slice Av2 nv2 cv2).ownBlock = some k → k < w8.heap.size := fun k hk => (hown2.lt k hk).2
            clear hown2 hgr2 hloc2 hOb s5 s6 d0 d1 d2 f0 f1 f2
            generalize w8.setCell ⟨w6.heap.size, 2, none⟩ (.slice Av2 nv2 cv2) = w9 at *
            generalize w8.heap.size = rb at *
            have hS9 := (hR9.weak (ok' := fun b => (Value.slice (some ⟨gq, oq, none⟩) (xs.length + 1) cq).ownBlock ≠ some b ∧ b ≠ rb) (fun b hb h => ⟨h, by omega⟩) (fun b hb h => h.1 hb)).alloc (.cells (Array.replicate sg.length (.int .i64 0)) 3)
            have hB9 : Blk (w9.alloc (.cells (Array.replicate sg.length (.int .i64 0)) 3)) rb 3 ((List.replicate sg.length (0 : Int)).map (Value.int .i64)) := by
              have := Blk.new w9 3 (List.replicate sg.length (.int .i64 0))
              rw [List.toArray_replicate, hsz9] at this
              rw [List.map_replicate]; exact this
            obtain ⟨cap9, w10, hcv, hb10, hz10, hc10⟩ := HCS.out (w9.alloc (.cells (Array.replicate sg.length (.int .i64 0)) 3))
            have hza : (w9.alloc (.cells (Array.replicate sg.length (.int .i64 0)) 3)).heap.size = rb + 1 := by rw [World.size_alloc, hsz9]
            rw [hza] at hcv hz10 hc10
            rw [hcv]
            simp only [Result.andThen]
            rw [Oper.upon_value]
            have HS10 := Lib.hid (hS9.fr (gt := rb) (Fr1.of hb10) (by omega) (by intro e; injection e with e; have e : gq = rb := e; omega) (fun e => by have := hNlt _ e; omega) (fun e => by have := hTlt _ e; omega) (fun h => h.2 rfl))
            rw [hza] at hb10
            have HB10 := Lib.hid (hB9.below hb10 (by omega))
            have HC10 := Lib.hid hc10
            have HQ10 : Hid ((Value.slice (some ⟨gq, oq, none⟩) (xs.length + 1) cq).ownBlock ≠ some rb ∧ (Value.slice (some ⟨gq, oq, none⟩) (xs.length + 1) cq).ownBlock ≠ some (rb + 1)) := Lib.hid ⟨by intro e; injection e with e; have e : gq = rb := e; omega, by intro e; injection e with e; have e : gq = rb + 1 := e; omega⟩
            have HZ10 : Hid (rb < w10.heap.size ∧ rb + 1 < w10.heap.size) := Lib.hid (by omega)
            have HNT : Hid ((∀ k, (Value.slice AN rows.length cN).ownBlock = some k → k < rb) ∧ (∀ k, (Value.slice Av2 nv2 cv2).ownBlock = some k → k < rb)) := Lib.hid ⟨hNlt, hTlt⟩
            have HDR : Hid (D ≤ rb ∧ gA < rb ∧ w6.heap.size + 2 = D) := Lib.hid (by have := HZ6.out; omega)
            clear hS9 hB9 hcv hb10 hz10 hc10 hza hR9 hw8 hgq hNlt hTlt hsz9 hmk
            go_wp2_with fail
            go_loopg [17, 101] sg.length (fun f2 qv iv wx => ∃ (d : Nat) (Er : List Int), d + f2 = sg.length ∧ iv = .int .i64 (d : Int) ∧ Hid (OfR ⟨sg, [], []⟩ C w6 w6.heap.size D a (rowD t sg i met d).1 rows (tks ++ [bv]) qv (.slice AN rows.length cN) (.slice Av2 nv2 cv2) (fun b => qv.ownBlock ≠ some b ∧ b ≠ rb) wx) ∧ Hid (Blk wx rb 3 (Er.map (Value.int .i64))) ∧ Hid (Er.length = sg.length ∧ ∀ e, e < d → gi Er e = gi (rowD t sg i met d).2 e) ∧ Hid (qv.ownBlock ≠ some rb ∧ qv.ownBlock ≠ some (rb + 1)) ∧ Hid (rb < wx.heap.size ∧ rb + 1 < wx.heap.size) ∧ Hid (wx.heap[rb + 1]? = w10.heap[rb + 1]?))
            case atStart => exact ⟨0, _, by omega, rfl, HS10, HB10, Lib.hid ⟨by simp, fun e he => absurd he (by omega)⟩, HQ10, HZ10, Lib.hid rfl⟩
            case round =>
              clear HS10 HB10 HQ10 HZ10
              obtain ⟨d, Er, hdf, rfl, HX, HBR, HER, HNQ, HZR, HCB⟩ := hrel
              by_cases hld : d < sg.length
              · obtain ⟨f2, rfl⟩ : ∃ f, gk = f + 1 := ⟨gk - 1, by omega⟩
                obtain ⟨hmq, hpre, hrl⟩ := rowD_ok (t := t) (sg := sg) (m := i) HOK.out.met d
                have hcd := (World.cell?_of_block (a := ⟨rb + 1, d, none⟩) HCB.out).trans (HC10.out d hld)
                have HSTEP : Hid (rowD t sg i met (d + 1) = (if (rowD t sg i met d).1.idxOf (toM t i (bu sg d)) = (rowD t sg i met d).1.length then (rowD t sg i met d).1 ++ [toM t i (bu sg d)] else (rowD t sg i met d).1, (rowD t sg i met d).2 ++ [((rowD t sg i met d).1.idxOf (toM t i (bu sg d)) : Int)])) := Lib.hid rfl
                have p3 : (d : Int) < (sg.length : Int) := by omega
                have p4 : IntKind.i64.wrap ((d : Int) + 1) = (d : Int) + 1 := i64_in _ (by omega)
                have HMQ := Lib.hid hmq; have HPRE := Lib.hid hpre; have HRL := Lib.hid hrl
                clear hmq hpre hrl
                generalize rowD t sg i met d = rg at *
                obtain ⟨q, rw_⟩ := rg
                simp only [] at *
                generalize bu sg d = c at *
                obtain ⟨kq, hkq⟩ := HX.out.que.some
                have hkl := (HX.out.que.lt hkq).2
                have HXA := Lib.hid (((HX.out.weak (ok' := fun b => u17.ownBlock ≠ some b ∧ b ≠ rb ∧ b ≠ wr.heap.size + 1) (fun b hb h => ⟨h.1, h.2, by omega⟩) (fun b hb h => h.1 hb)).alloc (.cells #[.int .u8 (c.toNat : Int)] 5)).alloc (.cells #[.int .i64 0] 3))
                have HAC : Hid (((wr.alloc (.cells #[.int .u8 (c.toNat : Int)] 5)).alloc (.cells #[.int .i64 0] 3)).cell? ⟨wr.heap.size, 0, none⟩ = some (.int .u8 (c.toNat : Int))) := Lib.hid ((World.cell?_alloc_lt (wr.alloc (.cells #[.int .u8 (c.toNat : Int)] 5)) (.cells #[.int .i64 0] 3) ⟨wr.heap.size, 0, none⟩ (by simp)).trans (cell_of_row _ _ 0 _ _ (0, 0) (heap_alloc_new wr _)))
                have HAT : Hid (Blk ((wr.alloc (.cells #[.int .u8 (c.toNat : Int)] 5)).alloc (.cells #[.int .i64 0] 3)) (wr.heap.size + 1) 3 [.int .i64 ((0 : Nat) : Int)]) := Lib.hid (by
                  have := Blk.new (wr.alloc (.cells #[.int .u8 (c.toNat : Int)] 5)) 3 [.int .i64 ((0 : Nat) : Int)]
                  rw [World.size_alloc] at this; exact this)
                have HAB := Lib.hid (((Below.refl wr.heap.size wr).alloc (Nat.le_refl _) (.cells #[.int .u8 (c.toNat : Int)] 5)).alloc (by simp) (.cells #[.int .i64 0] 3))
                have HAZ : Hid (((wr.alloc (.cells #[.int .u8 (c.toNat : Int)] 5)).alloc (.cells #[.int .i64 0] 3)).heap.size = wr.heap.size + 2 ∧ kq < wr.heap.size) := Lib.hid ⟨by simp, hkl⟩
                have HKQ := Lib.hid hkq
                have HBRA := Lib.hid ((HBR.out.alloc (.cells #[.int .u8 (c.toNat : Int)] 5)).alloc (.cells #[.int .i64 0] 3))
                have HCBA : Hid (((wr.alloc (.cells #[.int .u8 (c.toNat : Int)] 5)).alloc (.cells #[.int .i64 0] 3)).heap[rb + 1]? = w10.heap[rb + 1]?) := Lib.hid ((HAB.out.block _ HZR.out.2).trans HCB.out)
                clear hkq hkl
                go_upto_if 108 with fail
                generalize (wr.alloc (.cells #[.int .u8 (c.toNat : Int)] 5)).alloc (.cells #[.int .i64 0] 3) = wA at *
                generalize wr.heap.size = gc at *
                clear HX HBR HCB HAB
                have HDX := Lib.hid (HX6.out.below HXA.out.low HZ6.out)
                go_cut [101] from 101 to 154 (fun kv wx => kv = .int .i64 (d : Int) ∧ Hid (Blk wx (gc + 1) 3 [.int .i64 (toF t c i 0 : Int)] ∧ Fr1 (gc + 1) wA wx))
                case first =>
                  by_cases hib : i = beg
                  · have hbe : ((i : Int) == 1048576) = true := by rw [hib]; rfl
                    have hbe2 : (i == 1048576) = true := by rw [hib]; rfl
                    have HIE := Lib.hid hib
                    clear hib
                    have HFO := Lib.hid (follow_at HDX.out HAC.out HAT.out (by decide) (by have := HDR.out; have := HZR.out; omega) (by omega) hn12 A1 _ c1 _ HDX.out.fst (fun x h => (mem_srt.1 h).1) (Nat.le_trans (srt_lenD _ _) (by omega)))
                    go_wp2_with fail
                    refine HFO.out.mono ?_
                    rintro e w11 ⟨rfl, hb, hf⟩
                    have HH := Lib.hid (And.intro hb hf)
                    clear hb hf
                    go_wp2_with fail
                    go_meet
                    exact ⟨rfl, Lib.hid ⟨by rw [toF_zero, if_pos HIE.out]; exact HH.out.1, HH.out.2⟩⟩
                  · have hbe : ((i : Int) == 1048576) = false := by simp; unfold beg at hib; omega
                    have hbe2 : (i == 1048576) = false := by simp; unfold beg at hib; omega
                    have hbe3 : ¬ (i : Int) = 1048576 := by unfold beg at hib; omega
                    go_wp2_with fail
                    go_meet
                    exact ⟨rfl, Lib.hid ⟨by rw [toF_zero, if_neg hib]; exact HAT.out, Fr1.refl _ _⟩⟩
                case rest =>
                  obtain ⟨rfl, HT0⟩ := hcut
                  go_wp2_with fail
                  go_loopg [114] (leaves t).length (fun f3 kv wx => ∃ k : Nat, k + f3 = (leaves t).length ∧ kv = .int .i64 (k : Int) ∧ Hid (Blk wx (gc + 1) 3 [.int .i64 (toF t c i k : Int)]) ∧ Hid (Fr1 (gc + 1) wA wx))
                  case atStart => exact ⟨0, by omega, rfl, Lib.hid HT0.out.1, Lib.hid HT0.out.2⟩
                  case round =>
                    clear HT0
                    obtain ⟨k, hkf, rfl, HT, HF⟩ := hrel
                    by_cases hk : k < (leaves t).length
                    · obtain ⟨f3, rfl⟩ : ∃ f, gk = f + 1 := ⟨gk - 1, by omega⟩
                      have hgA : gA < gc + 1 := by have := HDR.out; have := HZR.out; omega
                      have hDX := HDX.out.fr HF.out hgA
                      have hcc : wr.cell? ⟨gc, 0, none⟩ = some (.int .u8 (c.toNat : Int)) := (World.cell?_of_block (a := ⟨gc, 0, none⟩) (HF.out.block gc (by have := HAZ.out.1; omega) (by omega))).trans HAC.out
                      obtain ⟨b3, o3, a3, m3, c3', rfl, hb3, hc3, hi3⟩ := hDX.nxt.at_ hk
                      rw [ro_nxL hk] at hi3
                      have z1 : (k : Int) < ((leaves t).length : Int) := by omega
                      have z3 : IntKind.i64.wrap ((k : Int) + 1) = (k : Int) + 1 := IntWalk.i64_in _ (by omega)
                      by_cases hbit : i.testBit k = true
                      · have hib : i ≠ beg := fun e => by rw [e, beg_bit, decide_eq_true_eq] at hbit; omega
                        have hsh : bits .and .i64 ((i : Int) / 2 ^ k) 1 = 1 := by rw [shr_bitI i k (by have := HIB.out; omega), if_pos hbit]
                        have hbe : ((i : Int) != 1048576) = true := by simp; unfold beg at hib; omega
                        have hbe2 : (i != 1048576) = true := by simp; unfold beg at hib; omega
                        have hbe3 : ¬ (i : Int) = 1048576 := by unfold beg at hib; omega
                        have HTS := Lib.hid (toF_yes (t := t) (c := c) hib hbit)
                        have HFO := Lib.hid (follow_at hDX hcc HT.out (toF_lt hn12 k) hgA (by omega) hn12 a3 m3 c3' _ hi3 (fun x h => (mem_nxN.1 h).1) (by have h1 := hi3.1; have h2 : (nxN (leaves t).length t k).length ≤ (leaves t).length := by { unfold nxN; exact Nat.le_trans (List.length_filter_le _ _) (by simp) }; simp only [List.length_map] at h1; omega))
                        clear hDX hi3 hbit hib
                        go_wp2_with fail
                        refine HFO.out.mono ?_
                        rintro e w11 ⟨rfl, hb, hf⟩
                        have HH := Lib.hid (And.intro hb hf)
                        clear hb hf
                        go_wp2_with fail
                        go_roundg f3
                        case measure => omega
                        case rel => exact ⟨k + 1, by omega, by simp, Lib.hid (by rw [HTS.out]; exact HH.out.1), Lib.hid (HF.out.trans HH.out.2)⟩
                      · have hsh : bits .and .i64 ((i : Int) / 2 ^ k) 1 = 0 := by rw [shr_bitI i k (by have := HIB.out; omega), if_neg hbit]
                        have HTS := Lib.hid (toF_no (t := t) (c := c) hbit)
                        clear hDX hi3 hbit
                        go_wp2_with fail
                        go_roundg f3
                        case measure => omega
                        case rel => exact ⟨k + 1, by omega, by simp, Lib.hid (by rw [HTS.out]; exact HT.out), HF⟩
                    · obtain rfl : k = (leaves t).length := by omega
                      rw [toF_end] at HT
                      have HXC := Lib.hid ((HXA.out.fr (gt := gc + 1) HF.out (by have := HDR.out; have := HZR.out; omega) (by rw [HKQ.out]; intro e; injection e with e; have := HAZ.out.2; omega) (fun e => by have := HNT.out.1 _ e; have := HZR.out; omega) (fun e => by have := HNT.out.2 _ e; have := HZR.out; omega) (fun h => h.2.2 rfl)).weak (ok' := fun b => u17.ownBlock ≠ some b ∧ b ≠ rb) (fun b _ h => ⟨h.1, h.2.1⟩) (fun b hb h => h.1 hb))
                      have hfz := HF.out.size
                      have hwz : rb < wr.heap.size ∧ rb + 1 < wr.heap.size ∧ gc + 2 ≤ wr.heap.size := by have := HZR.out; have := HAZ.out.1; omega
                      have HZR2 := Lib.hid hwz
                      have hBR : Blk wr rb 3 (Er.map (Value.int .i64)) := (HF.out.block rb (by have := HZR.out; have := HAZ.out.1; omega) (by have := HZR.out; omega)).trans HBRA.out
                      have HBRB := Lib.hid hBR
                      have HCBB : Hid (wr.heap[rb + 1]? = w10.heap[rb + 1]?) := Lib.hid ((HF.out.block (rb + 1) (by have := HZR.out; have := HAZ.out.1; omega) (by have := HZR.out; omega)).trans HCBA.out)
                      have ce : wr.cell? ⟨gc + 1, 0, none⟩ = some (.int .i64 (toM t i c : Int)) := HT.out.cell 0
                      have hTl : toM t i c < 4096 := toM_lt hn12
                      have hgiT := HC.out (toM t i c) (by omega)
                      have hwf : (Lit.int .i64 (toM t i c : Int)).wf = true := wf_small (by omega)
                      have hHAS := lookD_has HC.out HMQ.out hn12 (toM t i c)
                      have HAT2 := Lib.hid (fun h z => lookD_at (t := toM t i c) HC.out HMQ.out hn12 h z)
                      have HSZ := Lib.hid (mapD_size _ _ (clD_ne HC.out HMQ.out hn12))
                      have hql : q.length ≤ 4097 := HMQ.out.len hn12
                      have hqa : Hid (a ≤ q.length) := Lib.hid (by obtain ⟨l, hl⟩ := HPRE.out; rw [hl, List.length_append]; have := HA.out; omega)
                      have s1 : wr.cell? ⟨rb, d, none⟩ = some (.int .i64 (gi Er d)) := row_cellL hBR (by rw [HER.out.1]; exact hld)
                      have s2 : wr.frozen? ⟨rb, d, none⟩ = false := hBR.frozen _
                      have hile : q.idxOf (toM t i c) ≤ q.length := List.idxOf_le_length
                      have HGT := Lib.hid hgiT
                      clear hBR HXA HBRA HCBA HAC HAT HF HT HDX hgiT
                      generalize hix : q.idxOf (toM t i c) = ix at *
                      generalize toM t i c = T at *
                      clear hix
                      by_cases hin : ix < q.length
                      · rw [decide_eq_true hin] at hHAS
                        have HAI := Lib.hid (fun z => HAT2.out hin z)
                        rw [if_neg (by omega : ¬ ix = q.length)] at HSTEP
                        have HER2 : Hid ((Er.set d (ix : Int)).length = sg.length ∧ ∀ e, e < d + 1 → gi (Er.set d (ix : Int)) e = gi (rw_ ++ [(ix : Int)]) e) := Lib.hid (row_snoc HER.out hld HRL.out)
                        have HXD := Lib.hid (HXC.out.setR (k := d) (u := .int .i64 (ix : Int)) HBRB.out (by have := HDR.out; omega) HNQ.out.1)
                        have HBD := Lib.hid (blk_setL (k := d) (v := (ix : Int)) HBRB.out)
                        have HZD : Hid (rb < (wr.setCell ⟨rb, d, none⟩ (.int .i64 (ix : Int))).heap.size ∧ rb + 1 < (wr.setCell ⟨rb, d, none⟩ (.int .i64 (ix : Int))).heap.size) := Lib.hid (by have := HZR2.out; simp only [World.setCell, Array.size_modify]; omega)
                        have HCD : Hid ((wr.setCell ⟨rb, d, none⟩ (.int .i64 (ix : Int))).heap[rb + 1]? = w10.heap[rb + 1]?) := Lib.hid ((Below.heap_setCell _ _ _ _ (by show rb + 1 ≠ rb; omega)).trans HCBB.out)
                        clear HAT2 hin hile
                        go_wp2_with (at_lookup; refine wpList_lookup_own_ok_int _ rfl _ _ 66 rfl 3 3 .i64 lawI Tryz.underlying66 Tryz.underlying3 (zeroI _) (w6.heap.size + 1) q.length _ rfl HXC.out.map _ _ rfl (keyOf_int_mk Tryz.underlying3 hwf) ?_; intro cv2 hat hwc; rw [hHAS]; (have hcv : cv2 = (ix : Int) := (by have h := hat.symm.trans (HAI.out _); injection h with h; injection h)); clear hat hwc; subst hcv)
                        go_roundg f2
                        case measure => omega
                        case rel =>
                          refine ⟨d + 1, Er.set d (ix : Int), by omega, by simp, ?_, HBD, ?_, HNQ, HZD, HCD⟩
                          · rw [HSTEP.out]; exact HXD
                          · rw [HSTEP.out]; exact HER2
                      · have hixl : ix = q.length := by omega
                        rw [decide_eq_false hin] at hHAS
                        rw [if_pos hixl] at HSTEP
                        have HER2 : Hid ((Er.set d (ix : Int)).length = sg.length ∧ ∀ e, e < d + 1 → gi (Er.set d (ix : Int)) e = gi (rw_ ++ [(ix : Int)]) e) := Lib.hid (row_snoc HER.out hld HRL.out)
                        rw [hixl] at HER2 HSTEP
                        have hsz := HSZ.out
                        have hwfq : (Lit.int .i64 (q.length : Int)).wf = true := wf_small (by omega)
                        have hDz : D ≤ rb := by have := HDR.out; omega
                        clear HAT2 hin hile
                        go_wp2_with (first
                          | (at_lookup; refine wpList_lookup_own_ok_int _ rfl _ _ 66 rfl 3 3 .i64 lawI Tryz.underlying66 Tryz.underlying3 (zeroI _) (w6.heap.size + 1) q.length _ rfl HXC.out.map _ _ rfl (keyOf_int_mk Tryz.underlying3 hwf) ?_; intro cv2 hat hwc; rw [hHAS]; clear hat hwc)
                          | (at_len; refine wpList_len_own _ rfl _ 66 rfl 3 3 Tryz.underlying66 PE (w6.heap.size + 1) q.length _ rfl HXC.out.map ?_; rw [hsz])
                          | (at_mapUpdate; refine wpList_mapUpdate_own _ rfl _ _ _ 66 rfl 3 3 lawI Tryz.underlying66 PE (w6.heap.size + 1) q.length _ rfl HXC.out.map (by unfold maxLen; omega) _ _ _ rfl rfl (keyOf_int_mk Tryz.underlying3 hwf) _ [] (plainElem_int Tryz.underlying3 hwfq) ?_; intro w12 hown9 hgr9; have ce2 : w12.cell? ⟨gc + 1, 0, none⟩ = some (.int .i64 (T : Int)) := (World.cell?_of_block (a := ⟨gc + 1, 0, none⟩) (hgr9.block (gc + 1) (by omega) (by intro e; injection e with e; have := HDR.out; have := HZR.out; omega))).trans ce)
                          | (at_builtin; refine wpList_append_q (w := w12) rfl (.tmp 146) (.tmp 148) _ rfl 3 i0 _ Tryz.underlying44 hi0 hz0 hz1 (by omega) rfl D _ ((q.drop a).map fun x : Nat => (x : Int)) (T : Int) rfl rfl (HXC.out.que.kept hgr9 (by obtain ⟨k, hk⟩ := HXC.out.que.some; have := (HXC.out.que.lt hk).1; rw [hk]; intro e; injection e with e; have := HDD.out; omega)) (by rw [List.length_map, List.length_drop]; omega) (by have h1 := hgr9.size; have h2 := HZR2.out; omega) ?_; intro v9 w13 hq10 hgr10 hl10; have hb9 : w12.heap[rb]? = wr.heap[rb]? := hgr9.block _ HZR2.out.1 (by intro e; injection e with e; have := HDR.out; omega); have hb10 : w13.heap[rb]? = wr.heap[rb]? := (hgr10.block _ (Nat.lt_of_lt_of_le HZR2.out.1 hgr9.size) (fun e => HNQ.out.1 e.symm)).trans hb9; have s3 : w13.cell? ⟨rb, d, none⟩ = some (.int .i64 (gi Er d)) := (World.cell?_of_block (a := ⟨rb, d, none⟩) hb10).trans s1; have s4 : w13.frozen? ⟨rb, d, none⟩ = false := (World.frozen?_of_block (a := ⟨rb, d, none⟩) hb10).trans s2))
                        have hz9 : wr.heap.size ≤ w12.heap.size := hgr9.size
                        have hz10 : w12.heap.size ≤ w13.heap.size := hgr10.size
                        have hnq9 : v9.ownBlock ≠ some rb ∧ v9.ownBlock ≠ some (rb + 1) := by
                          rcases hl10 with h | ⟨g, h, hg⟩
                          · rw [h]; exact HNQ.out
                          · rw [h]
                            have := HZR2.out
                            exact ⟨by intro e; injection e with e; omega, by intro e; injection e with e; omega⟩
                        have hB10 : Blk w13 rb 3 (Er.map (Value.int .i64)) := hb10.trans HBRB.out
                        have hc10 : w13.heap[rb + 1]? = w10.heap[rb + 1]? := (hgr10.block _ (by have := HZR2.out; omega) (fun e => HNQ.out.2 e.symm)).trans ((hgr9.block _ HZR2.out.2.1 (by intro e; injection e with e; have := HDR.out; omega)).trans HCBB.out)
                        have HX10 := Lib.hid ((HXC.out.addQ (P := fun b => b ≠ rb) (t := T) hqa.out hgr9 (by rw [HGT.out]; exact hown9) hgr10 hl10 hq10).setR (k := d) (u := .int .i64 (q.length : Int)) hB10 hDz hnq9.1)
                        have HB10 := Lib.hid (blk_setL (k := d) (v := (q.length : Int)) hB10)
                        have HN10 := Lib.hid hnq9
                        have HZD : Hid (rb < (w13.setCell ⟨rb, d, none⟩ (.int .i64 (q.length : Int))).heap.size ∧ rb + 1 < (w13.setCell ⟨rb, d, none⟩ (.int .i64 (q.length : Int))).heap.size) := Lib.hid (by have := HZR2.out; simp only [World.setCell, Array.size_modify]; omega)
                        have HCD : Hid ((w13.setCell ⟨rb, d, none⟩ (.int .i64 (q.length : Int))).heap[rb + 1]? = w10.heap[rb + 1]?) := Lib.hid ((Below.heap_setCell _ _ _ _ (by show rb + 1 ≠ rb; omega)).trans hc10)
                        clear hown9 hgr9 hq10 hgr10 hl10 hB10 hnq9 hc10
                        go_roundg f2
                        case measure => omega
                        case rel =>
                          refine ⟨d + 1, Er.set d (q.length : Int), by omega, by simp, ?_, HB10, ?_, HN10, HZD, HCD⟩
                          · rw [HSTEP.out]; exact HX10
                          · rw [HSTEP.out]; exact HER2
              · obtain rfl : d = sg.length := by omega
                have p3 : ¬ (sg.length : Int) < (sg.length : Int) := by omega
                obtain ⟨hmq, hpre, hrl⟩ := rowD_ok (t := t) (sg := sg) (m := i) HOK.out.met sg.length
                have hEr : Er = (rowD t sg i met sg.length).2 := ints_ext (by rw [HER.out.1]; exact hrl.symm) (fun e he => HER.out.2 e (by rw [HER.out.1] at he; exact he))
                have hqa : a < (rowD t sg i met sg.length).1.length := by obtain ⟨l, hl⟩ := hpre; have hl : (rowD t sg i met sg.length).1 = met ++ l := hl; rw [hl, List.length_append]; have := HA.out; omega
                have hql : (rowD t sg i met sg.length).1.length ≤ 4097 := hmq.len hn12
                rw [← hEr] at hrl HSTP
                clear hpre hmq hEr
                generalize (rowD t sg i met sg.length).1 = q at *
                have hqd : q.drop a = q.getD a 0 :: q.drop (a + 1) := by rw [List.drop_eq_getElem_cons hqa, List.getD_eq_getElem?_getD, List.getElem?_eq_getElem hqa]; rfl
                have HW := Lib.hid (HX.out.weak (ok' := fun b => Value.ownBlock _ ≠ some b) (fun b _ h => h.1) (fun b hb h => h hb))
                have hque := HW.out.que
                rw [hqd, List.map_cons] at hque
                obtain ⟨g9, o9, k9, hv9, _⟩ := hque.head
                subst hv9
                generalize hxs9 : (q.drop (a + 1)).map (fun x : Nat => (x : Int)) = xs9 at *
                have HQD := Lib.hid hqd; have HXS9 := Lib.hid hxs9
                obtain ⟨KC, hk1, hk2, hk3⟩ := HW.out.rows
                have HK1 := Lib.hid hk1; have HK2 := Lib.hid hk2; have HK3 := Lib.hid hk3
                have HRW : Hid (rows.length ≤ 5000) := Lib.hid (by have h1 : rows.length = min a met.length := HOK.out.rl; have h2 : met.length ≤ 4097 := HOK.out.met.len hn12; omega)
                obtain ⟨d0, d1, d2, f0, f1, f2'⟩ := three_atL HW.out.out
                have p8 : (1 : Int) ≤ (xs9.length : Int) + 1 := by omega
                have hDz : D ≤ rb := by have := HDR.out; omega
                clear hque hqd hxs9 hk1 hk2 hk3 HX
                have HCU : Hid (∀ d, d < sg.length → (Er.map (Value.int .i64)).toArray[d]? = some (.int .i64 (gi Er d))) := Lib.hid (fun d hd => by
                  have hl : d < Er.length := by rw [HER.out.1]; exact hd
                  rw [List.getElem?_toArray, List.getElem?_map, List.getElem?_eq_getElem hl, gi_eq hl]; rfl)
                by_cases hk9 : k9 = 1
                all_goals
                  go_wp2_with (at_builtin; refine wpList_append1g rfl (.tmp 156) (.tmp 158) _ rfl 44 i1 _ Tryz.underlying22 hi1 hy0 hy1 (by omega) rfl D (.slice AN rows.length cN) KC (.slice (some ⟨rb, 0, none⟩) sg.length sg.length) rfl rfl rfl HK2.out (by have := HK1.out; have := HRW.out; omega) (by have := HZR.out; omega) ?_; intro v11 w11 hown11 hgr11 hloc11; obtain ⟨A11, n11, c11, e11⟩ : ∃ A n c, v11 = .slice A n c := (by obtain ⟨A', c', e, _⟩ := own_shape hown11; exact ⟨A', _, c', e⟩); subst e11; have hOb : w11.heap[w6.heap.size]? = wr.heap[w6.heap.size]? := hgr11.block _ (by have := HDR.out; have := HZR.out; omega) (fun e => by have h1 := HW.out.rows.lt e.symm; have := HDD.out; omega); have s5 : w11.cell? ⟨w6.heap.size, 1, none⟩ = some (.slice AN rows.length cN) := (World.cell?_of_block (a := ⟨w6.heap.size, 1, none⟩) hOb).trans d1; have s6 : w11.frozen? ⟨w6.heap.size, 1, none⟩ = false := (World.frozen?_of_block (a := ⟨w6.heap.size, 1, none⟩) hOb).trans f1)
                  have hpop := (HW.out.addN (gk := rb) (m := sg.length) (cap := sg.length) (K := Er) (cu := (Er.map (Value.int .i64)).toArray) HK1.out HK3.out hDz HNQ.out.1 HBR.out HER.out.1 HCU.out hgr11 hown11).pop HQD.out HXS9.out rfl
                  first
                    | rw [if_pos hk9, hk9] at hpop
                    | rw [if_neg hk9] at hpop
                  have HPOP := Lib.hid hpop
                  clear hpop hown11 hgr11 hloc11
                  go_roundg f
                  case measure => omega
                  case rel => exact ⟨a + 1, _, _, by omega, by rw [HSTP.out]; exact HPOP⟩
          · have hend := dfb_end hn12 (Nat.le_of_not_lt ha)
            have HEQ : Hid (M = ⟨sg, (dfb t sg a).rows, (dfb t sg a).tks⟩) := Lib.hid (by rw [HM.out, hend]; unfold dfM; with_reducible rfl)
            have HRL : Hid ((dfb t sg a).rows.length = M.n) := Lib.hid (by rw [HEQ.out])
            have HTL : Hid ((dfb t sg a).tks.length = M.n) := Lib.hid (by rw [HEQ.out]; have h1 := hok.rl; have h2 := hok.tl; show _ = (dfb t sg a).rows.length; omega)
            have hx := HR.out
            have hque := hx.que
            have hdr : ((dfb t sg a).met.drop a).map (fun x : Nat => (x : Int)) = [] := by rw [List.drop_eq_nil_of_le (Nat.le_of_not_lt ha)]; rfl
            rw [hdr] at hque
            obtain ⟨gq, oq, cq, cu, hqv, _⟩ := hque
            subst hqv
            obtain ⟨AN, cN, hvN⟩ := hx.rows.shape
            subst hvN
            obtain ⟨AT, cT, hvT, _⟩ := own_shape hx.tks
            subst hvT
            generalize (dfb t sg a).rows = rows at *
            generalize (dfb t sg a).tks = tks at *
            obtain ⟨d0, d1, d2, f0, f1, f2⟩ := three_atL hx.out
            rw [List.length_map] at d2
            have HDX := HX6.out.below hx.low HZ6.out
            have HRr := Lib.hid HDX.res
            obtain ⟨r0, r1, r2, g0, g1, g2⟩ := three_atL HRr.out
            have HKZ := Lib.hid hx.rows
            have HLT := Lib.hid HX6.out.lt
            have HTO : Hid (wr.ownsRow D 4 1 (.slice AT tks.length cT) tks.length (tks.map Value.bool)) := Lib.hid (by have := hx.tks; rwa [List.length_map] at this)
            have HFIN := Lib.hid (HB6.out.trans (hx.low.mono HB6.out.size))
            have HHR := Lib.hid HRL.out
            have hz6 := HZ6.out
            clear hok hend hx hdr ha HR HRL HDX
            go_wp2_with fail
            refine bodyPost_ret (res_cell_tmp rfl _ _ w.heap.size 25 _ (0, 0) _ rfl (set3L HRr.out) Tryz.underlying25 rfl (by kernel_rfl)) rfl ?_
            have hz := HLT.out
            have hdd := HDD.out
            have HGR := ((grown_setJ wr w.heap.size 0 (S sg)).trans (grown_setJ (wr.setCell ⟨w.heap.size, 0, none⟩ (S sg)) w.heap.size 1 (.slice AN rows.length cN))).trans (grown_setJ ((wr.setCell ⟨w.heap.size, 0, none⟩ (S sg)).setCell ⟨w.heap.size, 1, none⟩ (.slice AN rows.length cN)) w.heap.size 2 (.slice AT tks.length cT))
            have hKZ := HKZ.out.grown HGR (fun k hk hd => by injection hk with hk; omega) (fun k cur hk hd => by injection hk with hk; omega)
            have hTO := HTO.out.kept HGR (by
              cases hv : (Value.slice AT tks.length cT).ownBlock with
              | none => exact .inl rfl
              | some k =>
                right
                have h1 := HTO.out.lt k hv
                intro e; injection e with e; omega)
            refine ⟨⟨AN, cN, AT, ⟨cT, ?_⟩, ?_⟩, ?_⟩
            · rw [HHR.out, HTL.out]; rfl
            · have hR := hKZ.rows
              have hT := bls_of_own (T := tks) (by rw [List.length_map]; exact hTO) rfl
              refine ⟨?_, ?_⟩
              · have e : M.nx = rows := by rw [HEQ.out]
                rw [e, ← HHR.out]; exact hR
              · have e : M.tk = tks := by rw [HEQ.out]
                rw [e, ← HTL.out]; exact hT
            · exact ((HFIN.out.setCell (p := ⟨w.heap.size, 0, none⟩) (Nat.le_refl _) _).setCell (p := ⟨w.heap.size, 1, none⟩) (Nat.le_refl _) _).setCell (p := ⟨w.heap.size, 2, none⟩) (Nat.le_refl _) _
end Go.Proofs.YtchhbnnpannnhaaGreatDoor
