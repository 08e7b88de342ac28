/- The document's Open: its walk, at any text. No condition. -/
import Derived.Test.YteoofkinmilckaaGreatDoorBookOc
namespace Go.Proofs.YteoofkinmilckaaGreatDoor
open Go.RowKit IntWalk
attribute [local go_sem] byte_at str_app
attribute [local go_sem ↓] Go.wp_at_zero Go.wp_at_succ

abbrev bObj (s : BS) : Obj := .cells #[S s.now, S s.txt, .int .i64 (s.many : Int)] 23
abbrev eBS : BS := ⟨[], [], 0⟩
theorem res_cell_tmp2 {P : Program} {fn : Func} {p q r : Tmp} {ty : TypeId} (h : fn.results = #[.cell p ty, .tmp q, .tmp r]) (tmps : Array Value) (w : World) (g : Nat) (t : TypeId) (cs : Array Value) (fr : Nat × Nat) (d : TypeDesc)
    (hp : tmps.getD p undef = .pointer (some ⟨g, 0, none⟩)) (hg : w.heap[g]? = some (.cells cs t fr))
    (hu : P.underlying ty = some d) (hd : (match d with | .struct _ | .array _ _ => true | _ => false) = true) (hi : (P.info? ty).map (·.size) = some cs.size) :
    (results fn tmps).run P w = .ok (.tuple #[.agg cs, tmps.getD q undef, tmps.getD r undef]) w := by
  have hp' : tmps[p]?.getD undef = .pointer (some ⟨g, 0, none⟩) := by simpa using hp
  simp [results, h, hp', asAddr, run_loadVar_row w g t ty cs fr d hg hu hd hi]
/-- What holds while the document reads lines: the result's block, the book's, the row of lines. -/
def OD (w : World) (bl ol : Nat) (L : List (List UInt8)) (s : BS) (W : World) : Prop :=
  W.heap[w.heap.size]? = some (bObj eBS) ∧ W.heap[w.heap.size + 1]? = some (bObj s) ∧ (w.heap.size + 1 < bl ∧ bl < W.heap.size) ∧ (∀ j, j < L.length → W.cell? ⟨bl, ol + j, none⟩ = some (S (li L j))) ∧ Below w.heap.size w W
theorem OD.below {w W W' : World} {bl ol : Nat} {L : List (List UInt8)} {s : BS} (h : OD w bl ol L s W) (hb : Below W.heap.size W W') : OD w bl ol L s W' := by
  obtain ⟨h1, h2, h3, h4, h5⟩ := h
  refine ⟨(hb.block _ (Array.getElem?_eq_some_iff.1 h1).1).trans h1, (hb.block _ (Array.getElem?_eq_some_iff.1 h2).1).trans h2, ⟨h3.1, Nat.lt_of_lt_of_le h3.2 hb.size⟩, fun j hj => (hb.cell (p := ⟨bl, ol + j, none⟩) h3.2).trans (h4 j hj), h5.trans (hb.mono h5.size)⟩
theorem set3_cell {w : World} {g : Nat} {p : Addr} (h : p.block ≠ g) (x y z : Value) : (((w.setCell ⟨g, 0, none⟩ x).setCell ⟨g, 1, none⟩ y).setCell ⟨g, 2, none⟩ z).cell? p = w.cell? p := by
  unfold World.cell?
  have e : (((w.setCell ⟨g, 0, none⟩ x).setCell ⟨g, 1, none⟩ y).setCell ⟨g, 2, none⟩ z).heap[p.block]? = w.heap[p.block]? :=
    (Below.heap_setCell _ _ _ _ h).trans ((Below.heap_setCell _ _ _ _ h).trans (Below.heap_setCell _ _ _ _ h))
  rw [e]
theorem set3_size {w : World} {g : Nat} (x y z : Value) : (((w.setCell ⟨g, 0, none⟩ x).setCell ⟨g, 1, none⟩ y).setCell ⟨g, 2, none⟩ z).heap.size = w.heap.size := by
  simp [World.setCell]
theorem OD.other {w W : World} {bl ol g : Nat} {L : List (List UInt8)} {s : BS} (h : OD w bl ol L s W) (h1 : w.heap.size + 1 < g) (h2 : bl ≠ g) (x y z : Value) : OD w bl ol L s (((W.setCell ⟨g, 0, none⟩ x).setCell ⟨g, 1, none⟩ y).setCell ⟨g, 2, none⟩ z) := by
  obtain ⟨k1, k2, k3, k4, k5⟩ := h
  have e : ∀ k, k ≠ g → (((W.setCell ⟨g, 0, none⟩ x).setCell ⟨g, 1, none⟩ y).setCell ⟨g, 2, none⟩ z).heap[k]? = W.heap[k]? := fun k hk =>
    (Below.heap_setCell _ _ _ _ hk).trans ((Below.heap_setCell _ _ _ _ hk).trans (Below.heap_setCell _ _ _ _ hk))
  refine ⟨(e _ (by omega)).trans k1, (e _ (by omega)).trans k2, ⟨k3.1, by rw [set3_size]; exact k3.2⟩, fun j hj => (set3_cell (by exact h2) x y z).trans (k4 j hj), ((k5.setCell (p := ⟨g, 0, none⟩) (by show _ ≤ g; omega) _).setCell (p := ⟨g, 1, none⟩) (by show _ ≤ g; omega) _).setCell (p := ⟨g, 2, none⟩) (by show _ ≤ g; omega) _⟩
theorem OD.book {w W : World} {bl ol : Nat} {L : List (List UInt8)} {s : BS} (h : OD w bl ol L s W) (s' : BS) : OD w bl ol L s' (((W.setCell ⟨w.heap.size + 1, 0, none⟩ (S s'.now)).setCell ⟨w.heap.size + 1, 1, none⟩ (S s'.txt)).setCell ⟨w.heap.size + 1, 2, none⟩ (.int .i64 (s'.many : Int))) := by
  obtain ⟨k1, k2, k3, k4, k5⟩ := h
  have e : ∀ k, k ≠ w.heap.size + 1 → (((W.setCell ⟨w.heap.size + 1, 0, none⟩ (S s'.now)).setCell ⟨w.heap.size + 1, 1, none⟩ (S s'.txt)).setCell ⟨w.heap.size + 1, 2, none⟩ (.int .i64 (s'.many : Int))).heap[k]? = W.heap[k]? := fun k hk =>
    (Below.heap_setCell _ _ _ _ hk).trans ((Below.heap_setCell _ _ _ _ hk).trans (Below.heap_setCell _ _ _ _ hk))
  refine ⟨(e _ (by omega)).trans k1, set3 k2, ⟨k3.1, by rw [set3_size]; exact k3.2⟩, fun j hj => (set3_cell (by show bl ≠ _; omega) _ _ _).trans (k4 j hj), ((k5.setCell (p := ⟨w.heap.size + 1, 0, none⟩) (by show _ ≤ w.heap.size + 1; omega) _).setCell (p := ⟨w.heap.size + 1, 1, none⟩) (by show _ ≤ w.heap.size + 1; omega) _).setCell (p := ⟨w.heap.size + 1, 2, none⟩) (by show _ ≤ w.heap.size + 1; omega) _⟩
/-- What the document's Open answers. -/
def openR (T : List UInt8) : BS × Nat × Int := if 2000 < T.length then (eBS, 0, 4) else openD (cutB 10 T).dropLast eBS 0
theorem openD_cons {ls : List (List UInt8)} {i : Nat} (h : i < ls.length) (s : BS) (k : Nat) : openD (ls.drop i) s k = if (lineR s (li ls i)).1 ≠ 0 then (eBS, k + 1, (lineR s (li ls i)).1) else openD (ls.drop (i + 1)) (lineR s (li ls i)).2 (k + 1) := by
  rw [List.drop_eq_getElem_cons h, li_eq h]
  rfl
theorem openD_small : ∀ (ls : List (List UInt8)) (s : BS) (k : Nat), Smalls s → Smalls (openD ls s k).1
  | [], _, _, h => h
  | l :: ls, s, k, h => by
    unfold openD
    split
    · exact ⟨by simp, by simp, by simp⟩
    · exact openD_small ls _ _ (lineR_small h l)
theorem two_blocks (w : World) (o : Obj) : ((w.alloc o).alloc o).heap[w.heap.size]? = some o ∧ ((w.alloc o).alloc o).heap[w.heap.size + 1]? = some o := ⟨old_at w o o, new_at w o o⟩

set_option maxRecDepth 100000 in
set_option maxHeartbeats 8000000 in
theorem openR_any (T : List UInt8) (w : World) (hT : T.length ≤ 9223372036854775807) :
    Calls Tryz.prog 10 #[S T] w fun e w' => e = .returned (.tuple #[BV (openR T).1, .int .i64 ((openR T).2.1 : Int), .int .i64 (openR T).2.2]) ∧ Below w.heap.size w w' := by
  by_cases h2 : 2000 < T.length
  · have hR : openR T = (eBS, 0, 4) := if_pos h2
    have HR := Lib.hid hR
    have h2' : (2000 : Int) < (T.length : Int) := by omega
    clear hR
    generalize openR T = R at *
    obtain rfl := HR.out
    go_enter Tryz.func10, Tryz.ntmps10
    go_wp2_with fail
    refine bodyPost_ret (res_cell_tmp2 rfl _ _ w.heap.size 23 _ (0, 0) _ rfl (heap_alloc_new w _) Tryz.underlying23 rfl (by kernel_rfl)) rfl ?_
    exact ⟨rfl, (Below.refl _ w).alloc (Nat.le_refl _) _⟩
  have h2' : ¬ (2000 : Int) < (T.length : Int) := by omega
  have HR : Hid (openR T = openD (cutB 10 T).dropLast eBS 0) := Lib.hid (if_neg h2)
  have HCU := Lib.hid (fun W => cutL_any T 10 W (by omega))
  have HCL : Hid (∀ x ∈ cutB 10 T, x.length ≤ 2000) := Lib.hid fun x hx => Nat.le_trans (cutB_len _ _ _ hx) (by omega)
  have HCN : Hid (cutB 10 T ≠ [] ∧ (cutB 10 T).length ≤ 2001) := Lib.hid ⟨cutB_ne _ _, by
    have : ∀ l : List UInt8, (cutB 10 l).length ≤ l.length + 1 := by
      intro l
      induction l with
      | nil => simp [cutB]
      | cons x l ih =>
        unfold cutB
        split
        · simp; omega
        · cases hq : cutB 10 l with
          | nil => simp
          | cons a b => rw [hq] at ih; simp at ih ⊢; omega
    have := this T
    omega⟩
  generalize openR T = R at *
  go_enter Tryz.func10, Tryz.ntmps10
  go_wp2_with fail
  refine (HCU.out _).mono ?_
  rintro e w3 ⟨⟨A, k, rfl, hst, hge⟩, hb3⟩
  obtain ⟨hn0, hn1⟩ := HCN.out
  generalize cutB 10 T = L at *
  have hn2 : 0 < L.length := List.length_pos_iff.2 hn0
  obtain ⟨bl, ol, rfl, hbl, _⟩ := hst.at_ hn2
  have hgb := hge _ rfl
  have hod : OD w bl ol L eBS w3 := by
    obtain ⟨q1, q2⟩ := two_blocks w (bObj eBS)
    refine ⟨(hb3.block _ (by simp; omega)).trans q1, (hb3.block _ (by simp)).trans q2, ⟨by have h : w.heap.size + 1 + 1 ≤ bl := (by simpa using hgb); omega, hbl⟩, fun j hj => ?_, below_two hb3⟩
    obtain ⟨b', o', e', _, hc⟩ := hst.at_ hj
    injection e' with e'
    injection e' with e1 e2 _
    subst e1 e2
    exact hc
  have HOD := Lib.hid hod
  clear hod hst hge hgb hb3 hbl HCU hn0
  obtain ⟨m, hm⟩ : ∃ m, L.length = m + 1 := ⟨L.length - 1, by omega⟩
  have HLI : Hid (∀ j, j < m → li L.dropLast j = li L j) := Lib.hid fun j hj => by
    unfold li
    rw [List.getElem?_dropLast, if_pos (by omega)]
  have HLN : Hid (L.dropLast.length = m) := Lib.hid (by rw [List.length_dropLast]; omega)
  have HLX : Hid (∀ j, j < m → (li L j).length ≤ 2000) := Lib.hid fun j hj => HCL.out _ (by rw [li_eq (by omega)]; exact List.getElem_mem _)
  have hm9 : m ≤ 2000 := by omega
  rw [hm]
  clear hn2 hn1 HCN HCL
  go_wp2_with fail
  go_loopg [7] m (fun f iv wr => ∃ (i : Nat) (s : BS), i + f = m ∧ iv = .int .i64 (i : Int) ∧ Smalls s ∧ Hid (R = openD (L.dropLast.drop i) s i) ∧ OD w bl ol L s wr)
  case atStart => exact ⟨0, eBS, by omega, rfl, ⟨by simp, by simp, by simp⟩, Lib.hid (by rw [List.drop_zero]; exact HR.out), HOD.out⟩
  case round =>
    obtain ⟨i, s, hif, rfl, hsm, HRS, hod⟩ := hrel
    have HO := Lib.hid hod
    obtain ⟨hz, hs, ⟨hbl1, hbl2⟩, hc, hB⟩ := hod
    have hw0 : w.heap.size < wr.heap.size := by omega
    have hw1 : w.heap.size + 1 < wr.heap.size := by omega
    have f1 : IntKind.i64.wrap ((i : Int) + 1) = (i : Int) + 1 := i64_in _ (by omega)
    obtain ⟨a0, a1, a2, y0, y1, y2⟩ := three_at hz
    obtain ⟨b0, b1, b2, z0, z1, z2⟩ := three_at hs
    have HZ := Lib.hid hz; have HS := Lib.hid hs
    clear hz hs HR
    by_cases hi : i < m
    · obtain ⟨f, rfl⟩ : ∃ f, gk = f + 1 := ⟨gk - 1, by omega⟩
      have hcell := hc i (by omega)
      have hRs := HRS.out
      rw [openD_cons (by rw [HLN.out]; exact hi), HLI.out i hi] at hRs
      have HR2 := Lib.hid hRs
      have HLD := Lib.hid (fun W => lineD_any s (li L i) W hsm (HLX.out i hi))
      have hsm2 := lineR_small hsm (li L i)
      clear hRs hc
      generalize li L i = x at *
      generalize lineR s x = q at *
      obtain ⟨e0, s'⟩ := q
      have f5 : (i : Int) + 1 < (m : Int) + 1 := by omega
      have f6 : (0 : Int) ≤ (i : Int) := by omega
      have f7 : (i : Int) < (m : Int) + 1 := by omega
      have hB1 := hB.size
      go_upto_region 8 with fail
      go_cut [8, 9] from 17 to 39 (fun pv ev wx => ∃ g, pv = .pointer (some ⟨g, 0, none⟩) ∧ ev = .int .i64 e0 ∧ Hid (OD w bl ol L s wx) ∧ Hid (wx.heap[g]? = some (bObj s')))
      case first =>
        go_region_with (refine (HLD.out _).mono ?_; rintro e w6 ⟨rfl, hb6⟩; try (have hg8 : w6.heap[wr.heap.size]? = some (bObj eBS) := (Below.block hb6 wr.heap.size (by simp)).trans (heap_alloc_new wr _); obtain ⟨t0, t1, t2, t3, t4, t5⟩ := three_at hg8))
        all_goals
          first
            | (have hO6 : OD w bl ol L s w6 := (HO.out.below (Below.drew (Below.refl _ wr))).below hb6
               have HO6 := Lib.hid hO6
               clear hO6 hb6
               go_wp2_with fail
               go_meet
               exact ⟨_, rfl, rfl, Lib.hid (HO6.out.below ((Below.refl _ w6).alloc (Nat.le_refl _) _)), Lib.hid (heap_alloc_new w6 _)⟩)
            | (have hO6 : OD w bl ol L s w6 := ((HO.out.below ((Below.refl _ wr).alloc (Nat.le_refl _) _)).below (Below.drew (Below.refl _ _))).below hb6
               have HO6 := Lib.hid hO6
               have HG8 := Lib.hid hg8
               clear hO6 hb6
               go_wp2_with fail
               go_meet
               exact ⟨_, rfl, rfl, Lib.hid (OD.other HO6.out hw1 (by omega) _ _ _), Lib.hid (set3 HG8.out)⟩)
      case rest =>
        obtain ⟨g, rfl, rfl, HO8, HX8⟩ := hcut
        clear HO HZ HS a0 a1 a2 y0 y1 y2 b0 b1 b2 z0 z1 z2 hcell HLD hbl2 hB hB1 hw0 hw1
        obtain ⟨hz, hs, ⟨hbl1, hbl2⟩, hc, hB⟩ := HO8.out
        obtain ⟨a0, a1, a2, y0, y1, y2⟩ := three_at hz
        obtain ⟨b0, b1, b2, z0, z1, z2⟩ := three_at hs
        obtain ⟨x0, x1, x2, _, _, _⟩ := three_at HX8.out
        have HZ := Lib.hid hz; have HB := Lib.hid hB
        clear hz hs hc hB
        by_cases he : e0 = 0
        · subst he
          have hRs := HR2.out
          rw [if_neg (fun h => h rfl)] at hRs
          have HR3 := Lib.hid hRs
          clear hRs HR2
          go_wp2_with fail
          go_roundg f
          case measure => omega
          case rel => exact ⟨i + 1, s', by omega, by simp, hsm2, HR3.out, HO8.out.book s'⟩
        · have hR : R = (eBS, i + 1, e0) := by rw [HR2.out, if_pos he]
          subst hR
          have q1 : (e0 == 0) = false := by simpa using he
          have q2 : (e0 != 0) = true := by simpa using he
          clear HR2
          go_wp2_with fail
          refine bodyPost_ret (res_cell_tmp2 rfl _ _ w.heap.size 23 _ (0, 0) _ rfl (set3 HZ.out) Tryz.underlying23 rfl (by kernel_rfl)) rfl ?_
          exact ⟨rfl, ((HB.out.setCell (p := ⟨w.heap.size, 0, none⟩) (Nat.le_refl _) _).setCell (p := ⟨w.heap.size, 1, none⟩) (Nat.le_refl _) _).setCell (p := ⟨w.heap.size, 2, none⟩) (Nat.le_refl _) _⟩
    · obtain rfl : i = m := by omega
      have hR : R = (s, i, 0) := by
        rw [HRS.out, List.drop_of_length_le (by rw [HLN.out]; exact Nat.le_refl _)]
        rfl
      subst hR
      have HB := Lib.hid hB
      have f9 : IntKind.i64.wrap ((i : Int) + 1 - 1) = (i : Int) := by rw [i64_in _ (by omega)]; omega
      clear hc hB
      go_wp2_with fail
      refine bodyPost_ret (res_cell_tmp2 rfl _ _ w.heap.size 23 _ (0, 0) _ rfl (set3 HZ.out) Tryz.underlying23 rfl (by kernel_rfl)) rfl ?_
      exact ⟨by simp, ((HB.out.setCell (p := ⟨w.heap.size, 0, none⟩) (Nat.le_refl _) _).setCell (p := ⟨w.heap.size, 1, none⟩) (Nat.le_refl _) _).setCell (p := ⟨w.heap.size, 2, none⟩) (Nat.le_refl _) _⟩
end Go.Proofs.YteoofkinmilckaaGreatDoor
