/- package book's Open, at any text. Condition: as of line. -/
import Derived.Test.YteoofkinmilckaaGreatDoorBookJ
import Derived.Test.YteoofkinmilckaaGreatDoorBookZ
namespace Go.Proofs.YteoofkinmilckaaGreatDoor
open Go.RowKit Go.Shelf IntWalk
attribute [local go_sem] Oper.semAt_some
attribute [local go_sem] byte_at str_app

/-- One line more: whole, and nothing wrong with it. -/
def stepC (o : Option BS) (x : List UInt8) : Option BS := match o with
  | none => none
  | some s => if Lib.hasSuffix x [10] = true ∧ (lineR s (Lib.trimSuffix x [10])).1 = 0 then some (lineR s (Lib.trimSuffix x [10])).2 else none
/-- What so many lines make; none: something was wrong. -/
def runC (xs : List (List UInt8)) : Option BS := xs.foldl stepC (some ⟨[], [], 0⟩)
theorem runC_snoc (xs : List (List UInt8)) (x : List UInt8) : runC (xs ++ [x]) = stepC (runC xs) x := by unfold runC; rw [List.foldl_append]; rfl
theorem lineR_small {s : BS} (h : Smalls s) (l : List UInt8) : Smalls (lineR s l).2 := by
  unfold lineR
  split
  · exact h
  split
  · exact h
  split
  · exact h
  split
  · split
    · exact h
    · split
      · exact putS_small h _ _
      · split
        · split
          · exact h
          · exact cutS_small h _ _
        · exact h
  · exact h
theorem runC_small (xs : List (List UInt8)) : ∀ s, runC xs = some s → Smalls s := by
  have : ∀ (xs : List (List UInt8)) (o : Option BS), (∀ s, o = some s → Smalls s) → ∀ s, xs.foldl stepC o = some s → Smalls s := by
    intro xs
    induction xs with
    | nil => intro o ho s h; exact ho s h
    | cons x xs ih =>
      intro o ho s h
      refine ih (stepC o x) (fun s' h' => ?_) s h
      unfold stepC at h'
      cases o with
      | none => cases h'
      | some t =>
        simp only [] at h'
        by_cases hc : Lib.hasSuffix x [10] = true ∧ (lineR t (Lib.trimSuffix x [10])).1 = 0
        · rw [if_pos hc] at h'
          obtain rfl := Option.some.inj h'
          exact lineR_small (ho t rfl) _
        · rw [if_neg hc] at h'; cases h'
  exact this xs _ (fun s h => by obtain rfl := Option.some.inj h; exact ⟨by simp, by simp, by simp⟩)
/-- What holds between two rounds of Open's loop. -/
def OpG (w : World) (q : Nat) (s : BS) (W : World) : Prop :=
  (∃ o : Obj, o.isCells = true ∧ Bks (FQ q (qObj (w.heap.size + 1 + 1 + 1)) (q + 1) o) (w.heap.size + 1 + 1 + 1) (w.heap.size + 1 + 1 + 1) s W) ∧ Below (w.heap.size + 1 + 1 + 1) (w3 w) W
theorem OpG.grown {w : World} {q n : Nat} {s : BS} {A B : World} {row : Option Nat} (hs : OpG w q s A) (hn : w.heap.size + 1 + 1 + 1 ≤ n) (hg : A.grownBy B row) (hr : ∀ r, row = some r → n ≤ r ∧ ∃ o : Obj, A.heap[r]? = some o ∧ o.isCells = false) : OpG w q s B := by
  obtain ⟨⟨o, ho, hk⟩, hb⟩ := hs
  refine ⟨⟨o, ho, hk.grown (fun k o' hk' => ?_) hg (fun r e => (hr r e).2)⟩, hb.grown hg (by have := hb.size; rw [w3_size] at this; exact this) (fun k e => Nat.le_trans hn (hr k e).1)⟩
  rcases FQ_inv hk' with ⟨_, rfl⟩ | ⟨_, rfl⟩
  · rfl
  · exact ho
theorem OpG.free {w : World} {q : Nat} {s : BS} {W : World} (h : OpG w q s W) (hq : w.heap.size + 1 + 1 + 1 ≤ q) : (∀ v, OpG w q s (W.setCell ⟨q + 1, 0, none⟩ v)) ∧ OpG w q s W.drew := by
  obtain ⟨⟨o, ho, hk⟩, hb⟩ := h
  refine ⟨fun v => ⟨?_, hb.setCell (p := ⟨q + 1, 0, none⟩) (by show _ ≤ q + 1; omega) v⟩, ⟨⟨o, ho, hk.below (Below.drew (Below.refl _ W))⟩, hb.drew⟩⟩
  have hat := hk.frame (FQ_s (by omega) _ _)
  obtain ⟨cs, t, fr, rfl⟩ : ∃ cs t fr, o = .cells cs t fr := by
    cases o with
    | cells cs t fr => exact ⟨cs, t, fr, rfl⟩
    | _ => simp [Obj.isCells] at ho
  have hat' : (W.setCell ⟨q + 1, 0, none⟩ v).heap[q + 1]? = some (.cells (cs.setIfInBounds 0 v) t fr) := by
    simp [World.setCell, Array.getElem?_modify, hat]
  refine ⟨.cells (cs.setIfInBounds 0 v) t fr, rfl, hk.turn (fun k hk' _ => Below.heap_setCell _ _ _ k (fun e => ?_)) fun k o hk' => ?_⟩
  · simp only [] at e; subst e; rw [FQ_s (by omega)] at hk'; cases hk'
  · rcases FQ_inv hk' with ⟨rfl, rfl⟩ | ⟨rfl, rfl⟩
    · exact ⟨(Below.heap_setCell _ _ _ _ (by simp)).trans (hk.frame (FQ_q _ _ _ _)), _, FQ_q _ _ _ _⟩
    · exact ⟨hat', _, FQ_s (by omega) _ _⟩
theorem OpG.below {w W : World} {q : Nat} {s : BS} (h : OpG w q s W) : Below w.heap.size w W :=
  ((((Below.refl _ w).alloc (Nat.le_refl _) _).alloc (by simp) _).alloc (by simp; omega) _).trans (h.2.mono (by omega))
theorem cutsuf_gen (x : List UInt8) (w : World) (ha : x.length ≤ 100000) :
    Calls Tryz.prog 25 #[S x, .string ⟨#[10]⟩] w fun e w' => e = .returned (.tuple #[S (Lib.trimSuffix x [10]), .bool (Lib.hasSuffix x [10])]) ∧ w' = w :=
  Tryz.strings_CutSuffix ⟨x.toArray⟩ ⟨#[10]⟩ w (by simp [ByteArray.size]; omega)
theorem trim_len (x : List UInt8) : (Lib.trimSuffix x [10]).length ≤ x.length := by
  unfold Lib.trimSuffix
  split
  · rw [List.length_take]; omega
  · exact Nat.le_refl _
theorem chunks_len : ∀ (T x : List UInt8), x ∈ chunks T → x.length ≤ T.length
  | [], x, h => by cases h
  | c :: l, x, h => by
    have ih := chunks_len l
    have e : chunks (c :: l) = if c = 10 then [c] :: chunks l else match chunks l with
      | [] => [[c]]
      | x :: xs => (c :: x) :: xs := rfl
    rw [e] at h
    by_cases hc : c = 10
    · rw [if_pos hc, List.mem_cons] at h
      rcases h with h | h
      · rw [h]; simp
      · have := ih x h; simp; omega
    · rw [if_neg hc] at h
      cases hl : chunks l with
      | nil => rw [hl] at h; simp only [List.mem_singleton] at h; rw [h]; simp
      | cons y ys =>
        rw [hl] at h ih
        simp only [List.mem_cons] at h
        rcases h with h | h
        · rw [h]; have := ih y (by simp); simp; omega
        · have := ih x (by simp [h]); simp; omega
theorem O3.grown' {h : Nat} {a b c : Value} {A B : World} {row : Option Nat} (H : O3 h a b c A) (hg : A.grownBy B row) (hr : ∀ r, row = some r → ∃ o : Obj, A.heap[r]? = some o ∧ o.isCells = false) : O3 h a b c B :=
  ⟨boxed_own (β := Unit) _ _ (fun _ => _) () A B row H.1 hg hr, boxed_own (β := Unit) _ _ (fun _ => _) () A B row H.2.1 hg hr, boxed_own (β := Unit) _ _ (fun _ => _) () A B row H.2.2 hg hr⟩
/-- How Open ends: what was read is whole, or broken off; or a line was wrong. -/
def OpenSays (w : World) (T : List UInt8) (e : Ending) (w' : World) : Prop :=
  (∃ s pre b, (pre = chunks T ∨ ∃ x rest, chunks T = pre ++ x :: rest ∧ Lib.hasSuffix x [10] = false) ∧ runC pre = some s ∧ e = .returned (.tuple #[.pointer (some ⟨b, 0, none⟩), .int .i64 (s.many : Int), .nilIface]) ∧ Bks nF w.heap.size b s w') ∨
  (∃ s pre x rest, chunks T = pre ++ x :: rest ∧ runC pre = some s ∧ Lib.hasSuffix x [10] = true ∧ (lineR s (Lib.trimSuffix x [10])).1 ≠ 0 ∧ e = .returned (.tuple #[.pointer none, .int .i64 (((lineR s (Lib.trimSuffix x [10])).2.many : Int) + 1), errV (lineR s (Lib.trimSuffix x [10])).1]))

set_option maxRecDepth 100000 in
set_option maxHeartbeats 2000000 in
theorem open_gen (T : List UInt8) (w : World) (hl : T.length ≤ 2000) (ht : TG w) (hm : ML w) (he : EV w) :
    Calls Tryz.prog 11 #[S T] w fun e w' => OpenSays w T e w' ∧ Below w.heap.size w w' := by
  have h1 : 1 ≤ 3 := by omega
  have HT := Lib.hid ht; have HM := Lib.hid hm; have HE := Lib.hid he
  clear ht hm he
  refine (callsIn_wide (n := 3)).1 ?_
  refine callsIn_of_wp_marks Tryz.func11 rfl trivial ?_ rfl
  simp only [Tryz.ntmps11, List.size_toArray, List.length_cons, List.length_nil, Nat.reduceAdd, Nat.reduceSub, Array.replicate_succ, Array.replicate_zero, List.push_toArray, List.append_toArray, List.nil_append, List.cons_append]
  gi_wp2_with fail
  refine ⟨trivial, ?_⟩
  refine (callsIn_wide.2 (new_any nF _ (fun _ _ h => by cases h))).mono ?_
  rintro e w1 ⟨rfl, hk1, hb1⟩
  rw [w3_size] at hk1 hb1
  have HI0 : Hid (OpG w w1.heap.size ⟨[], [], 0⟩ ((w1.alloc (qObj (w.heap.size + 1 + 1 + 1))).alloc (.cells #[S T] 9))) := Lib.hid
    ⟨⟨_, rfl, hk1.add2 _ _⟩, (hb1.alloc (by have := hb1.size; rw [w3_size] at this; exact this) _).alloc (by have := hb1.size; rw [w3_size] at this; simp; omega) _⟩
  have hz := hb1.size
  rw [w3_size] at hz
  have HZ := Lib.hid hz
  clear hk1 hb1 hz
  gi_wp2_with fail
  refine ⟨trivial, ?_⟩
  refine (lines_in _ T _).mono ?_
  rintro e w' ⟨rfl, rfl⟩
  gi_wp2_with fail
  have hbox : ((w1.alloc (qObj (w.heap.size + 1 + 1 + 1))).alloc (.cells #[S T] 9)).heap[w1.heap.size + 1]? = some (.cells #[S T] 9) := by
    have := heap_alloc_new (w1.alloc (qObj (w.heap.size + 1 + 1 + 1))) (.cells #[S T] 9)
    rwa [World.size_alloc] at this
  have hsz : ((w1.alloc (qObj (w.heap.size + 1 + 1 + 1))).alloc (.cells #[S T] 9)).heap.size = w1.heap.size + 1 + 1 := by simp
  change Code.wpIn _ _ _ _ _ _ ((w1.alloc (qObj (w.heap.size + 1 + 1 + 1))).alloc (.cells #[S T] 9))
  generalize hW0 : (w1.alloc (qObj (w.heap.size + 1 + 1 + 1))).alloc (.cells #[S T] 9) = W0 at *
  have hzq := HZ.out
  refine rangeFunc_cell rfl h1 (gf := 40) (lb := #[.pointer (some ⟨w1.heap.size + 1, 0, none⟩)]) rfl trivial (enters_of Tryz.func40 (by kernel_rfl) rfl)
    (encs := fun x : List UInt8 => #[S x]) (c := ⟨w1.heap.size + 1, 0, none⟩) (xs := chunks T) (lines1_in 2 (by omega) (w1.heap.size + 1) T (by omega) W0 hbox) (by show w1.heap.size + 1 < _; omega) (fun _ => rfl)
    (fun pre W => ∃ s, runC pre = some s ∧ OpG w w1.heap.size s W)
    (fun cd pre W => (cd = .exit 0 ∧ ∃ ini x s, pre = ini ++ [x] ∧ Lib.hasSuffix x [10] = false ∧ runC ini = some s ∧ OpG w w1.heap.size s W) ∨
      (cd = .ret ∧ ∃ ini x s, pre = ini ++ [x] ∧ Lib.hasSuffix x [10] = true ∧ runC ini = some s ∧ (lineR s (Lib.trimSuffix x [10])).1 ≠ 0 ∧
        O3 w.heap.size (.pointer none) (.int .i64 (((lineR s (Lib.trimSuffix x [10])).2.many : Int) + 1)) (errV (lineR s (Lib.trimSuffix x [10])).1) W ∧ Below w.heap.size w W))
    (fun pre A B row hs hg hr => by obtain ⟨s, h1, h2⟩ := hs; exact ⟨s, h1, h2.grown (by omega) hg hr⟩)
    (fun pre W hs => by obtain ⟨s, h1, h2⟩ := hs; exact ⟨fun v => ⟨s, h1, (h2.free hzq).1 v⟩, s, h1, (h2.free hzq).2⟩)
    (fun cd pre A B row hs hg hr => by
      rcases hs with ⟨h0, ini, x, s, h1, h2, h3, h4⟩ | ⟨h0, ini, x, s, h1, h2, h3, h4, h5, h6⟩
      · exact .inl ⟨h0, ini, x, s, h1, h2, h3, h4.grown (by omega) hg hr⟩
      · exact .inr ⟨h0, ini, x, s, h1, h2, h3, h4, h5.grown' hg (fun r e => (hr r e).2), h6.grown hg h6.size (fun k e => Nat.le_trans (by omega) (hr k e).1)⟩)
    ⟨_, rfl, HI0.out⟩
    (fun x => { tmps := #[S T, undef, .pointer (some ⟨w.heap.size, 0, none⟩), .pointer (some ⟨w.heap.size + 1, 0, none⟩), .pointer (some ⟨w.heap.size + 1 + 1, 0, none⟩), .pointer (some ⟨w1.heap.size, 0, none⟩), S x, undef, undef, undef, S T, .int .i64 (T.length : Int), .bool (decide ((2000 : Int) < (T.length : Int))), undef, .pointer (some ⟨w.heap.size + 1 + 1 + 1, 0, none⟩), S T, .func (.func 40) #[] #[.pointer (some ⟨w1.heap.size + 1, 0, none⟩)], S x, undef, undef, undef, undef, undef, undef, undef, undef, undef, undef, undef, undef, undef, undef, undef, undef, undef, undef, undef, undef, undef, undef, undef], defers := [] }) ?assign ?body ?done ?stop
  case assign =>
    intro l' x W K hK
    gi_wp2
    exact hK
  case body =>
    rintro l' pre x W ⟨s, hrun, hI⟩ hpre
    have HI := Lib.hid hI
    have HRUN := Lib.hid hrun
    have hsm := runC_small pre s hrun
    have hxl : x.length ≤ 2000 := by
      obtain ⟨t, ht⟩ := hpre
      exact Nat.le_trans (chunks_len T x (by rw [← ht]; simp)) hl
    obtain ⟨⟨o, ho, hk⟩, hb⟩ := hI
    have hbw := OpG.below HI.out
    have cq : W.cell? ⟨w1.heap.size, 0, none⟩ = some (.pointer (some ⟨w.heap.size + 1 + 1 + 1, 0, none⟩)) := by rw [Lib.cell_of_heap (hk.frame (FQ_q _ _ _ _))]; rfl
    have HCS := Lib.hid (cutsuf_gen x W (by omega))
    have htl := trim_len x
    cases hsuf : Lib.hasSuffix x [10]
    · rw [hsuf] at HCS
      have HSUF := Lib.hid hsuf
      clear hk ho hsuf hrun hpre
      generalize Lib.trimSuffix x [10] = y at *
      gi_wp2_with fail
      refine ⟨trivial, ?_⟩
      refine ((callsIn_wide.2 HCS.out).inRound l').mono ?_
      rintro e' w' ⟨rfl, rfl⟩
      gi_wp2_with fail
      exact ⟨KeepsFrom.refl _ _, .inl ⟨rfl, pre, x, s, rfl, HSUF.out, HRUN.out, HI.out⟩⟩
    · rw [hsuf] at HCS
      have HSUF := Lib.hid hsuf
      obtain ⟨F', hk', hsub, hwall⟩ := hk.walls
      have HST : Hid (runC (pre ++ [x]) = if (lineR s (Lib.trimSuffix x [10])).1 = 0 then some (lineR s (Lib.trimSuffix x [10])).2 else none) := Lib.hid (by
        rw [runC_snoc, hrun]
        unfold stepC
        simp only [hsuf, true_and])
      have HLN := Lib.hid (line_gen F' (w.heap.size + 1 + 1 + 1) (w.heap.size + 1 + 1 + 1) s (Lib.trimSuffix x [10]) W hk' (HT.out.below hbw (Nat.le_refl _)) (HM.out.below hbw HM.out.lt) (HE.out.below hbw HE.out.lt.1 HE.out.lt.2) hsm (by omega) (by have := hb.size; rw [w3_size] at this; exact this) (by have := HT.out.lt; omega) (by have := HM.out.lt; omega) (by have := HE.out.lt; omega) (by have := HE.out.lt; omega))
      have HK := Lib.hid hk; have HSUB := Lib.hid hsub; have HWALL := Lib.hid hwall; have HO := Lib.hid ho
      have HSE : Hid (∀ ev : Int, ev = (lineR s (Lib.trimSuffix x [10])).1 → ∀ s', s' = (lineR s (Lib.trimSuffix x [10])).2 → True) := Lib.hid fun _ _ _ _ => trivial
      clear hk' hsub hwall hk ho hsuf hrun hpre HSE
      have HR1 : Hid (∃ ev, ev = (lineR s (Lib.trimSuffix x [10])).1) := Lib.hid ⟨_, rfl⟩
      obtain ⟨ev, hev⟩ := HR1.out
      have HR2 : Hid (∃ s', s' = (lineR s (Lib.trimSuffix x [10])).2) := Lib.hid ⟨_, rfl⟩
      obtain ⟨s', hs'⟩ := HR2.out
      rw [← hev, ← hs'] at HST HLN
      have HEV := Lib.hid hev; have HS' := Lib.hid hs'
      have hsm' : Smalls s' := by rw [hs']; exact lineR_small hsm _
      clear HR1 HR2 hev hs'
      have HTX : Hid (∃ y, y = Lib.trimSuffix x [10]) := Lib.hid ⟨_, rfl⟩
      obtain ⟨y, hy⟩ := HTX.out
      rw [← hy] at HCS HLN HEV HS'
      have HY := Lib.hid hy
      clear HTX hy htl
      by_cases h0 : ev = 0
      · subst h0
        rw [if_pos rfl] at HST
        gi_wp2_with fail
        refine ⟨trivial, ?_⟩
        refine ((callsIn_wide.2 HCS.out).inRound l').mono ?_
        rintro e' w' ⟨rfl, rfl⟩
        gi_wp2_with fail
        refine ⟨trivial, ?_⟩
        refine ((callsIn_wide.2 HLN.out).inRound l').mono ?_
        rintro e' W' ⟨rfl, hb', hk2⟩
        rw [show errV 0 = .nilIface from rfl]
        have HB' := Lib.hid hb'; have HK2 := Lib.hid hk2
        clear hb' hk2 HLN HCS
        gi_wp2_with fail
        exact ⟨⟨HB'.out.size, fun k o' _ hk ho' => HK2.out.frame (HWALL.out k o' hk ho')⟩, (HK2.out.frame (HSUB.out _ _ (FQ_s (by omega) _ _))).trans (HK.out.frame (FQ_s (by omega) _ _)).symm, s', HST.out, ⟨o, HO.out, HK2.out.weaken HSUB.out⟩, hb.trans HB'.out⟩
      · have H0 := Lib.hid h0
        rw [err_ne h0] at HLN
        clear h0
        gi_wp2_with fail
        refine ⟨trivial, ?_⟩
        refine ((callsIn_wide.2 HCS.out).inRound l').mono ?_
        rintro e' w' ⟨rfl, rfl⟩
        gi_wp2_with fail
        refine ⟨trivial, ?_⟩
        refine ((callsIn_wide.2 HLN.out).inRound l').mono ?_
        rintro e' W' ⟨rfl, hb', hk2⟩
        have HB' := Lib.hid hb'; have HK2 := Lib.hid hk2
        have cq2 : W'.cell? ⟨w1.heap.size, 0, none⟩ = some (.pointer (some ⟨w.heap.size + 1 + 1 + 1, 0, none⟩)) := by rw [Lib.cell_of_heap (hk2.frame (HSUB.out _ _ (FQ_q _ _ _ _)))]; rfl
        have hO3 := O3.new (hb.trans hb')
        have HO3 := Lib.hid hO3
        obtain ⟨p, hp, hkat⟩ := hk2
        obtain ⟨_, _, c3, _, _, _⟩ := hkat.cells
        obtain ⟨b0, b1, b2⟩ := hO3
        have k0 := b0.cell; have k1 := b1.cell; have k2 := b2.cell
        have g0 := b0.frozen; have g1 := b1.frozen; have g2 := b2.frozen
        have f1 : IntKind.i64.wrap ((s'.many : Int) + 1) = (s'.many : Int) + 1 := i64_in _ (by have := hsm'.2.1; omega)
        clear hb' hkat hp b0 b1 b2 HLN HCS cq
        gi_wp2_with fail
        gi_region
        all_goals
          gi_wp2_with fail
          have hko := ((KeepsOthers.setCell W' ⟨w.heap.size, 0, none⟩ (.pointer none)).trans (KeepsOthers.setCell _ ⟨w.heap.size + 1, 0, none⟩ (.int .i64 ((s'.many : Int) + 1)))).trans (KeepsOthers.setCell _ ⟨w.heap.size + 1 + 1, 0, none⟩ (.iface 46 (.int .i64 ev)))
          refine ⟨⟨Nat.le_trans HB'.out.size hko.size, fun k o' hkB hk ho' => ?_⟩, .inr ⟨rfl, pre, x, s, rfl, HSUF.out, HRUN.out, by rw [← HY.out, ← HEV.out]; exact H0.out, ?_, ?_⟩⟩
          · exact hko.same k o' (HK2.out.frame (HWALL.out k o' hk ho')) ho'
          · rw [← HY.out, ← HEV.out, ← HS'.out, err_ne H0.out]
            exact HO3.out.set _ _ _
          · exact ((((hbw.trans (HB'.out.mono (by omega))).setCell (p := ⟨w.heap.size, 0, none⟩) (Nat.le_refl _) (.pointer none)).setCell (p := ⟨w.heap.size + 1, 0, none⟩) (Nat.le_add_right _ 1) (.int .i64 ((s'.many : Int) + 1))).setCell (p := ⟨w.heap.size + 1 + 1, 0, none⟩) (by show w.heap.size ≤ w.heap.size + 1 + 1; omega) (.iface 46 (.int .i64 ev))).drew
  case done =>
    rintro D W hD ⟨s, hrun, hI⟩ hK
    have HO := Lib.hid (O3.new hI.2)
    have HI := Lib.hid hI
    obtain ⟨⟨o, ho, hk⟩, hb⟩ := hI
    have hq : W.heap[w1.heap.size]? = some (qObj (w.heap.size + 1 + 1 + 1)) := hk.frame (FQ_q _ _ _ _)
    have cq : W.cell? ⟨w1.heap.size, 0, none⟩ = some (.pointer (some ⟨w.heap.size + 1 + 1 + 1, 0, none⟩)) := by rw [Lib.cell_of_heap hq]; rfl
    obtain ⟨p, hp, hkat⟩ := hk
    obtain ⟨_, _, c3, _, _, _⟩ := hkat.cells
    have HKA := Lib.hid (show Bk _ _ _ _ _ _ W from ⟨p, hp, hkat⟩)
    obtain ⟨b0, b1, b2⟩ := HO.out
    have k0 := b0.cell; have k1 := b1.cell; have k2 := b2.cell
    have g0 := b0.frozen; have g1 := b1.frozen; have g2 := b2.frozen
    have HRUN := Lib.hid hrun
    clear hkat hp hq hb b0 b1 b2 hrun
    gi_wp2_with fail
    gi_region
    all_goals
      gi_wp2_with fail
      have hK' := (((KeepsOthers.setCell W ⟨w.heap.size, 0, none⟩ (.pointer (some ⟨w.heap.size + 1 + 1 + 1, 0, none⟩))).trans (KeepsOthers.setCell _ ⟨w.heap.size + 1, 0, none⟩ (.int .i64 (s.many : Int)))).trans (KeepsOthers.setCell _ ⟨w.heap.size + 1 + 1, 0, none⟩ .nilIface)).same D _ hK rfl
      refine ⟨by simp, .inl ⟨_, _, rfl, run_takeDeferred hK', ?_⟩⟩
      have hO5 : O3 w.heap.size (.pointer (some ⟨w.heap.size + 1 + 1 + 1, 0, none⟩)) (.int .i64 (s.many : Int)) .nilIface (((W.setCell ⟨w.heap.size, 0, none⟩ (.pointer (some ⟨w.heap.size + 1 + 1 + 1, 0, none⟩))).setCell ⟨w.heap.size + 1, 0, none⟩ (.int .i64 (s.many : Int))).setCell ⟨w.heap.size + 1 + 1, 0, none⟩ .nilIface).drew := HO.out.set _ _ _
      obtain ⟨d1, d2, d3⟩ := hO5.put (D := D) (o := .deferred none) (by omega)
      have e1 := d1.cell
      have e2 := d2.cell
      have e3 := d3.cell
      refine ⟨.tuple #[.pointer (some ⟨w.heap.size + 1 + 1 + 1, 0, none⟩), .int .i64 (s.many : Int), .nilIface], by simp [results, Tryz.f11, go_sem, e1, e2, e3], .inl ⟨s, chunks T, w.heap.size + 1 + 1 + 1, .inl rfl, HRUN.out, rfl, ?_⟩, ?_⟩
      · refine HKA.out.refence (by omega) (fun k o' hk _ hw ho' => ?_) (fun _ _ h => by cases h)
        have hkD : k ≠ D := fun e => by subst e; rw [hK] at hw; cases hw; cases ho'
        exact (World.putObj_heap_other hkD).trans ((Below.heap_setCell _ _ _ k (by show k ≠ w.heap.size + 1 + 1; omega)).trans ((Below.heap_setCell _ _ _ k (by show k ≠ w.heap.size + 1; omega)).trans ((Below.heap_setCell _ _ _ k (by show k ≠ w.heap.size; omega)).trans hw)))
      · have hBs := (((OpG.below HI.out).setCell (p := ⟨w.heap.size, 0, none⟩) (Nat.le_refl _) (.pointer (some ⟨w.heap.size + 1 + 1 + 1, 0, none⟩))).setCell (p := ⟨w.heap.size + 1, 0, none⟩) (Nat.le_add_right _ 1) (.int .i64 (s.many : Int))).setCell (p := ⟨w.heap.size + 1 + 1, 0, none⟩) (by show w.heap.size ≤ w.heap.size + 1 + 1; omega) .nilIface
        exact hBs.drew.trans (belowK_b (w := w) (Nat.le_refl _) _ D _ _ (by omega) hK' rfl rfl)
  case stop =>
    rintro D cd pre W hD hpre (⟨rfl, ini, x, s, rfl, hsuf, hrun, hI⟩ | ⟨rfl, ini, x, s, rfl, hsuf, hrun, h0, hO, hB⟩) hK
    · have HPR : Hid (∃ x rest, chunks T = ini ++ x :: rest ∧ Lib.hasSuffix x [10] = false) := by
        obtain ⟨t, ht⟩ := hpre
        exact Lib.hid ⟨x, t, by rw [← ht]; simp, hsuf⟩
      clear hpre hsuf
      have HO := Lib.hid (O3.new hI.2)
      have HI := Lib.hid hI
      obtain ⟨⟨o, ho, hk⟩, hb⟩ := hI
      have hq : W.heap[w1.heap.size]? = some (qObj (w.heap.size + 1 + 1 + 1)) := hk.frame (FQ_q _ _ _ _)
      have cq : W.cell? ⟨w1.heap.size, 0, none⟩ = some (.pointer (some ⟨w.heap.size + 1 + 1 + 1, 0, none⟩)) := by rw [Lib.cell_of_heap hq]; rfl
      obtain ⟨p, hp, hkat⟩ := hk
      obtain ⟨_, _, c3, _, _, _⟩ := hkat.cells
      have HKA := Lib.hid (show Bk _ _ _ _ _ _ W from ⟨p, hp, hkat⟩)
      obtain ⟨b0, b1, b2⟩ := HO.out
      have k0 := b0.cell; have k1 := b1.cell; have k2 := b2.cell
      have g0 := b0.frozen; have g1 := b1.frozen; have g2 := b2.frozen
      have HRUN := Lib.hid hrun
      clear hkat hp hq hb b0 b1 b2 hrun
      gi_wp2_with fail
      gi_region
      all_goals
        gi_wp2_with fail
        have hK' := (((KeepsOthers.setCell W ⟨w.heap.size, 0, none⟩ (.pointer (some ⟨w.heap.size + 1 + 1 + 1, 0, none⟩))).trans (KeepsOthers.setCell _ ⟨w.heap.size + 1, 0, none⟩ (.int .i64 (s.many : Int)))).trans (KeepsOthers.setCell _ ⟨w.heap.size + 1 + 1, 0, none⟩ .nilIface)).same D _ hK rfl
        refine ⟨by simp, .inl ⟨_, _, rfl, run_takeDeferred hK', ?_⟩⟩
        have hO5 : O3 w.heap.size (.pointer (some ⟨w.heap.size + 1 + 1 + 1, 0, none⟩)) (.int .i64 (s.many : Int)) .nilIface (((W.setCell ⟨w.heap.size, 0, none⟩ (.pointer (some ⟨w.heap.size + 1 + 1 + 1, 0, none⟩))).setCell ⟨w.heap.size + 1, 0, none⟩ (.int .i64 (s.many : Int))).setCell ⟨w.heap.size + 1 + 1, 0, none⟩ .nilIface).drew := HO.out.set _ _ _
        obtain ⟨d1, d2, d3⟩ := hO5.put (D := D) (o := .deferred none) (by omega)
        have e1 := d1.cell
        have e2 := d2.cell
        have e3 := d3.cell
        refine ⟨.tuple #[.pointer (some ⟨w.heap.size + 1 + 1 + 1, 0, none⟩), .int .i64 (s.many : Int), .nilIface], by simp [results, Tryz.f11, go_sem, e1, e2, e3], .inl ⟨s, ini, w.heap.size + 1 + 1 + 1, .inr HPR.out, HRUN.out, rfl, ?_⟩, ?_⟩
        · refine HKA.out.refence (by omega) (fun k o' hk _ hw ho' => ?_) (fun _ _ h => by cases h)
          have hkD : k ≠ D := fun e => by subst e; rw [hK] at hw; cases hw; cases ho'
          exact (World.putObj_heap_other hkD).trans ((Below.heap_setCell _ _ _ k (by show k ≠ w.heap.size + 1 + 1; omega)).trans ((Below.heap_setCell _ _ _ k (by show k ≠ w.heap.size + 1; omega)).trans ((Below.heap_setCell _ _ _ k (by show k ≠ w.heap.size; omega)).trans hw)))
        · have hBs := (((OpG.below HI.out).setCell (p := ⟨w.heap.size, 0, none⟩) (Nat.le_refl _) (.pointer (some ⟨w.heap.size + 1 + 1 + 1, 0, none⟩))).setCell (p := ⟨w.heap.size + 1, 0, none⟩) (Nat.le_add_right _ 1) (.int .i64 (s.many : Int))).setCell (p := ⟨w.heap.size + 1 + 1, 0, none⟩) (by show w.heap.size ≤ w.heap.size + 1 + 1; omega) .nilIface
          exact hBs.drew.trans (belowK_b (w := w) (Nat.le_refl _) _ D _ _ (by omega) hK' rfl rfl)
    · have HPR : Hid (∃ rest, chunks T = ini ++ x :: rest) := by
        obtain ⟨t, ht⟩ := hpre
        exact Lib.hid ⟨t, by rw [← ht]; simp⟩
      have HSUF := Lib.hid hsuf; have HRUN := Lib.hid hrun; have H0 := Lib.hid h0; have HB := Lib.hid hB
      clear hpre hsuf hrun h0 hB
      gi_wp2_with fail
      refine ⟨by simp, .inl ⟨_, _, rfl, run_takeDeferred hK, ?_⟩⟩
      obtain ⟨d1, d2, d3⟩ := hO.put (D := D) (o := .deferred none) (by omega)
      have e1 := d1.cell
      have e2 := d2.cell
      have e3 := d3.cell
      obtain ⟨rest, hrest⟩ := HPR.out
      refine ⟨.tuple #[.pointer none, .int .i64 (((lineR s (Lib.trimSuffix x [10])).2.many : Int) + 1), errV (lineR s (Lib.trimSuffix x [10])).1], by simp [results, Tryz.f11, go_sem, e1, e2, e3], .inr ⟨s, ini, x, rest, hrest, HRUN.out, HSUF.out, H0.out, rfl⟩, ?_⟩
      exact HB.out.trans (belowK_b (w := w) (Nat.le_refl _) W D _ _ (by omega) hK rfl rfl)
end Go.Proofs.YteoofkinmilckaaGreatDoor
