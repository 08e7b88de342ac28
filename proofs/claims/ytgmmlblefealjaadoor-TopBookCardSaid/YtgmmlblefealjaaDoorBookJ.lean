/- package book's Open, of a text that a row of changes wrote, and a rest. Condition: as of line. -/
import Derived.Test.YtgmmlblefealjaaDoorBookI
import Derived.Test.YtgmmlblefealjaaDoorBookM
namespace Go.Proofs.YtgmmlblefealjaaDoor
open Go.RowKit Go.Shelf IntWalk
attribute [local go_sem] Oper.semAt_some
attribute [local go_sem] byte_at str_app

theorem Bk.weaken {F F' : Nat → Option Obj} {B b many : Nat} {now txt : List UInt8} {w : World} (h : Bk F B b now txt many w) (hF : ∀ k o, F' k = some o → F k = some o) : Bk F' B b now txt many w :=
  h.turn (fun _ _ _ => rfl) fun k o hk => ⟨h.frame (hF k o hk), o, hF k o hk⟩
/-- Whatever is no cells is foreign, too. -/
theorem Bk.walls {F : Nat → Option Obj} {B b many : Nat} {now txt : List UInt8} {w : World} (h : Bk F B b now txt many w) :
    ∃ F', Bk F' B b now txt many w ∧ (∀ k o, F k = some o → F' k = some o) ∧ ∀ k o, w.heap[k]? = some o → o.isCells = false → F' k = some o := by
  obtain ⟨p, hp, hB, v, hbk, hown, hne, hF⟩ := h
  refine ⟨fun k => if (F k).isSome then F k else match w.heap[k]? with
    | some o => if Obj.isCells o then none else some o
    | none => none, ⟨p, hp, hB, v, hbk, hown, hne, fun k o hk => ?_⟩, fun k o hk => by simp [hk], fun k o hk ho => ?_⟩
  · simp only [] at hk
    cases hFk : F k with
    | some o' => rw [hFk] at hk; simp only [Option.isSome_some, if_true] at hk; cases hk; exact hF k o hFk
    | none =>
      rw [hFk] at hk
      simp only [Option.isSome_none, Bool.false_eq_true, if_false] at hk
      cases hw : w.heap[k]? with
      | none => rw [hw] at hk; cases hk
      | some o' =>
        rw [hw] at hk
        simp only [] at hk
        by_cases ho : o'.isCells = true
        · rw [if_pos ho] at hk; cases hk
        · rw [if_neg ho] at hk
          cases hk
          refine ⟨rfl, fun e => ?_, fun e => ?_⟩
          · subst e; rw [hbk] at hw; cases hw; exact ho rfl
          · rcases hown.2 with ⟨rfl, _⟩ | ⟨g, cap, cur, fz, rfl, _, hg, _⟩
            · cases e
            · cases e; rw [hg] at hw; cases hw; exact ho rfl
  · cases hFk : F k with
    | some o' => simp only [hFk, Option.isSome_some, if_true]; have := (hF k o' hFk).1; rw [hk] at this; exact this.symm
    | none => simp only [hFk, Option.isSome_none, Bool.false_eq_true, if_false, hk, ho]
/-- A turn of blocks that are no cells. -/
theorem Bk.grown {F : Nat → Option Obj} {B b many : Nat} {now txt : List UInt8} {w w' : World} {row : Option Nat} (h : Bk F B b now txt many w) (hFc : ∀ (k : Nat) (o : Obj), F k = some o → o.isCells = true) (hg : w.grownBy w' row) (hr : ∀ r, row = some r → ∃ o : Obj, w.heap[r]? = some o ∧ o.isCells = false) : Bk F B b now txt many w' := by
  obtain ⟨p, hp, hB, v, hbk, hown, hne, hF⟩ := h
  have keep : ∀ (k : Nat) (o : Obj), w.heap[k]? = some o → o.isCells = true → w'.heap[k]? = w.heap[k]? := fun k o hk ho => hg.block k (Array.getElem?_eq_some_iff.1 hk).1 (fun e => by
    obtain ⟨o', h1, h2⟩ := hr k e.symm
    rw [hk] at h1; cases h1; rw [ho] at h2; cases h2)
  refine ⟨p, hp, hB, v, (keep b _ hbk rfl).trans hbk, ?_, hne, fun k o hk => ⟨(keep k o (hF k o hk).1 (hFc k o hk)).trans (hF k o hk).1, (hF k o hk).2⟩⟩
  rcases hown.2 with h2 | ⟨g, cap, cur, fz, rfl, hgB, hh, r⟩
  · exact ⟨hown.1, .inl h2⟩
  · exact ⟨hown.1, .inr ⟨g, cap, cur, fz, rfl, hgB, (keep g _ hh rfl).trans hh, r⟩⟩
/-- Wherever what is the book's lies as it lay. -/
theorem Bk.refence {F F' : Nat → Option Obj} {B B' b many : Nat} {now txt : List UInt8} {w w' : World} (h : Bk F B b now txt many w) (hB' : B' ≤ B) (hs : ∀ (k : Nat) (o : Obj), B ≤ k → F k = none → w.heap[k]? = some o → o.isCells = true → w'.heap[k]? = some o)
    (hF' : ∀ k o, F' k = some o → w'.heap[k]? = some o ∧ (k < B ∨ w.heap.size ≤ k ∨ ∃ o', F k = some o')) : Bk F' B' b now txt many w' := by
  have hl := h.lt
  obtain ⟨p, hp, hB, v, hbk, hown, hne, hF⟩ := h
  have nb : F b = none := by
    cases hb : F b with
    | none => rfl
    | some o => exact absurd rfl (hF b o hb).2.1
  have nv : ∀ y, v.ownBlock = some y → F y = none := fun y hy => by
    cases hb : F y with
    | none => rfl
    | some o => exact absurd hy (hF y o hb).2.2
  refine ⟨p, hp, Nat.le_trans hB' hB, v, hs b _ hB nb hbk rfl, ?_, hne, fun k o hk => ?_⟩
  · rcases hown.2 with h2 | ⟨g, cap, cur, fz, rfl, hgB, hh, r⟩
    · exact ⟨hown.1, .inl h2⟩
    · exact ⟨hown.1, .inr ⟨g, cap, cur, fz, rfl, Nat.le_trans hB' hgB, hs g _ hgB (nv g rfl) hh rfl, r⟩⟩
  · obtain ⟨h1, h2⟩ := hF' k o hk
    refine ⟨h1, ?_⟩
    rcases h2 with h2 | h2 | ⟨o', h2⟩
    · exact ⟨by omega, fun e => by have := (hown.lt k e).1; omega⟩
    · exact ⟨by omega, fun e => by have := (hown.lt k e).2; omega⟩
    · exact (hF k o' h2).2
/-- Two foreign blocks. -/
def FQ (q : Nat) (oq : Obj) (s : Nat) (os : Obj) : Nat → Option Obj := fun k => if k = q then some oq else if k = s then some os else none
theorem FQ_q (q : Nat) (oq : Obj) (s : Nat) (os : Obj) : FQ q oq s os q = some oq := if_pos rfl
theorem FQ_s {q s : Nat} (h : s ≠ q) (oq os : Obj) : FQ q oq s os s = some os := by unfold FQ; rw [if_neg h, if_pos rfl]
theorem FQ_inv {q s k : Nat} {oq os o : Obj} (h : FQ q oq s os k = some o) : (k = q ∧ o = oq) ∨ (k = s ∧ o = os) := by
  unfold FQ at h
  by_cases h1 : k = q
  · rw [if_pos h1] at h; exact .inl ⟨h1, (Option.some.inj h).symm⟩
  · rw [if_neg h1] at h
    by_cases h2 : k = s
    · rw [if_pos h2] at h; exact .inr ⟨h2, (Option.some.inj h).symm⟩
    · rw [if_neg h2] at h; cases h

theorem Bk.add2 {B b many : Nat} {now txt : List UInt8} {w : World} (h : Bk nF B b now txt many w) (o1 o2 : Obj) : Bk (FQ w.heap.size o1 (w.heap.size + 1) o2) B b now txt many ((w.alloc o1).alloc o2) := by
  have hl := h.lt
  obtain ⟨p, hp, hB, v, hbk, hown, hne, hF⟩ := h
  have keep : ∀ k, k < w.heap.size → ((w.alloc o1).alloc o2).heap[k]? = w.heap[k]? := fun k hk => (Lib.alloc_old _ o2 k (by simp; omega)).trans (Lib.alloc_old w o1 k hk)
  refine ⟨p, hp, hB, v, (keep b hl).trans hbk, ownF_stay hown fun y hy => keep y (hown.lt y hy).2, hne, fun k o hk => ?_⟩
  rcases FQ_inv hk with ⟨rfl, rfl⟩ | ⟨rfl, rfl⟩
  · exact ⟨(Lib.alloc_old _ o2 _ (by simp)).trans (heap_alloc_new w _), by omega, fun e => by have := (hown.lt _ e).2; omega⟩
  · refine ⟨?_, by omega, fun e => by have := (hown.lt _ e).2; omega⟩
    have := heap_alloc_new (w.alloc o1) o
    rwa [World.size_alloc] at this
theorem lines_in (n : Nat) (l : List UInt8) (w : World) :
    CallsIn Fence.wide n Tryd.prog 29 #[S l] w fun e w' => e = .returned (.func (.func 40) #[] #[.pointer (some ⟨w.heap.size, 0, none⟩)]) ∧ w' = w.alloc (.cells #[S l] 9) := by
  refine callsIn_of_wp Tryd.func29 rfl trivial ?_ rfl
  simp only [Tryd.ntmps29, List.size_toArray, List.length_cons, List.length_nil, Nat.reduceAdd, Nat.reduceSub, Array.replicate_succ, Array.replicate_zero, List.push_toArray, List.append_toArray, List.nil_append, List.cons_append]
  gi_wp2
  go_ret
  exact ⟨rfl, rfl⟩
abbrev qObj (B : Nat) : Obj := .cells #[.pointer (some ⟨B, 0, none⟩)] 30
abbrev w3 (w : World) : World := ((w.alloc (.cells #[.pointer none] 30)).alloc (.cells #[.int .i64 0] 3)).alloc (.cells #[.nilIface] 23)
/-- What holds between two rounds of Open's loop. -/
def OpI (es : List Ev) (w : World) (q j : Nat) (W : World) : Prop :=
  (∃ o : Obj, o.isCells = true ∧ Bks (FQ q (qObj (w.heap.size + 1 + 1 + 1)) (q + 1) o) (w.heap.size + 1 + 1 + 1) (w.heap.size + 1 + 1 + 1) (stE es j) W) ∧ Below (w.heap.size + 1 + 1 + 1) (w3 w) W
theorem w3_size (w : World) : (w3 w).heap.size = w.heap.size + 1 + 1 + 1 := by simp [w3]
theorem OpI.own {es : List Ev} {w : World} {q : Nat} {β : Type} (f : β → Nat) {n : Nat} (hn : w.heap.size + 1 + 1 + 1 ≤ n) : OwnFrom n (fun (s : β) W => OpI es w q (f s) W) :=
  fun s A B row hs hg hr => by
    obtain ⟨⟨o, ho, hk⟩, hb⟩ := hs
    refine ⟨⟨o, ho, hk.grown (fun k o' hk' => ?_) hg (fun r e => (hr r e).2)⟩, hb.grown hg (by have := hb.size; rw [w3_size] at this; exact this) (fun k e => Nat.le_trans hn (hr k e).1)⟩
    rcases FQ_inv hk' with ⟨_, rfl⟩ | ⟨_, rfl⟩
    · rfl
    · exact ho
theorem OpI.free {es : List Ev} {w : World} {q : Nat} {β : Type} (f : β → Nat) (hq : w.heap.size + 1 + 1 + 1 ≤ q) : CellFree ⟨q + 1, 0, none⟩ (fun (s : β) W => OpI es w q (f s) W) := by
  intro s W ⟨⟨o, ho, hk⟩, hb⟩
  refine ⟨fun v => ⟨?_, hb.setCell (p := ⟨q + 1, 0, none⟩) (by show _ ≤ q + 1; omega) v⟩, ⟨⟨o, ho, hk.below (Below.drew (Below.refl _ W))⟩, hb.drew⟩⟩
  have hat := hk.frame (FQ_s (by omega) _ _)
  obtain ⟨cs, t, fr, rfl⟩ : ∃ cs t fr, o = .cells cs t fr := by
    cases o with
    | cells cs t fr => exact ⟨cs, t, fr, rfl⟩
    | _ => simp [Obj.isCells] at ho
  have hat' : (W.setCell ⟨q + 1, 0, none⟩ v).heap[q + 1]? = some (.cells (cs.setIfInBounds 0 v) t fr) := by
    simp [World.setCell, Array.getElem?_modify, hat]
  refine ⟨.cells (cs.setIfInBounds 0 v) t fr, rfl, hk.turn (fun k hk' _ => Below.heap_setCell _ _ _ k (fun e => ?_)) fun k o hk' => ?_⟩
  · simp only [] at e; subst e; rw [FQ_s (by omega)] at hk'; cases hk'
  · rcases FQ_inv hk' with ⟨rfl, rfl⟩ | ⟨rfl, rfl⟩
    · exact ⟨(Below.heap_setCell _ _ _ _ (by simp)).trans (hk.frame (FQ_q _ _ _ _)), _, FQ_q _ _ _ _⟩
    · exact ⟨hat', _, FQ_s (by omega) _ _⟩

def O3 (h : Nat) (a b c : Value) (W : World) : Prop := Boxed W h 30 a ∧ Boxed W (h + 1) 3 b ∧ Boxed W (h + 1 + 1) 23 c
theorem O3.set {h : Nat} {a b c : Value} {W : World} (H : O3 h a b c W) (a' b' c' : Value) : O3 h a' b' c' (((W.setCell ⟨h, 0, none⟩ a').setCell ⟨h + 1, 0, none⟩ b').setCell ⟨h + 1 + 1, 0, none⟩ c') :=
  ⟨((H.1.set _).other (by omega) _).other (by omega) _, ((H.2.1.other (by omega) _).set _).other (by omega) _, ((H.2.2.other (by omega) _).other (by omega) _).set _⟩
theorem O3.new {w W : World} (hb : Below (w.heap.size + 1 + 1 + 1) (w3 w) W) : O3 w.heap.size (.pointer none) (.int .i64 0) .nilIface W := by
  have h1 := Boxed.new w 30 (.pointer none)
  have h2 := Boxed.new (w.alloc (.cells #[.pointer none] 30)) 3 (.int .i64 0)
  have h3 := Boxed.new ((w.alloc (.cells #[.pointer none] 30)).alloc (.cells #[.int .i64 0] 3)) 23 .nilIface
  rw [World.size_alloc] at h2
  rw [World.size_alloc, World.size_alloc] at h3
  exact ⟨(hb.block _ (by omega)).trans ((h1.alloc _).alloc _), (hb.block _ (by omega)).trans (h2.alloc _), (hb.block _ (by omega)).trans h3⟩
theorem OpI.below {es : List Ev} {w W : World} {q j : Nat} (h : OpI es w q j W) : Below w.heap.size w W :=
  ((((Below.refl _ w).alloc (Nat.le_refl _) _).alloc (by simp) _).alloc (by simp; omega) _).trans (h.2.mono (by omega))
theorem O3.put {h D : Nat} {a b c : Value} {W : World} {o : Obj} (H : O3 h a b c W) (hD : h + 1 + 1 < D) : O3 h a b c (W.putObj D o) :=
  ⟨(World.putObj_heap_other (by omega)).trans H.1, (World.putObj_heap_other (by omega)).trans H.2.1, (World.putObj_heap_other (by omega)).trans H.2.2⟩

theorem chunk_at {es : List Ev} {r T x : List UInt8} {pre : List (List UInt8)} (hch : chunks T = (es.map fun e => evT e ++ [10]) ++ (if r = [] then [] else [r])) (hp : pre ++ [x] <+: chunks T) (hpl : pre.length ≤ es.length) :
    (pre.length < es.length ∧ x = evT (es.getD pre.length (.cut 0 0)) ++ [10]) ∨ (pre.length = es.length ∧ x = r) := by
  obtain ⟨t, ht⟩ := hp
  have h : (chunks T)[pre.length]? = some x := by rw [← ht]; simp
  rw [hch] at h
  rcases Nat.lt_or_ge pre.length es.length with hlt | hge
  · rw [List.getElem?_append_left (by simpa using hlt), List.getElem?_map, List.getElem?_eq_getElem hlt] at h
    refine .inl ⟨hlt, ?_⟩
    rw [List.getD_eq_getElem?_getD, List.getElem?_eq_getElem hlt]
    exact (Option.some.inj h).symm
  · have he : pre.length = es.length := by omega
    rw [List.getElem?_append_right (by simp; omega)] at h
    rw [List.length_map, he, Nat.sub_self] at h
    by_cases hr : r = []
    · rw [if_pos hr] at h; cases h
    · rw [if_neg hr] at h
      exact .inr ⟨he, (Option.some.inj h).symm⟩
theorem has_10 (a : List UInt8) : Lib.hasSuffix (a ++ [10]) [10] = true := by
  unfold Lib.hasSuffix
  rw [List.isSuffixOf_iff_suffix]
  exact List.suffix_append a [10]
theorem trim_10 (a : List UInt8) : Lib.trimSuffix (a ++ [10]) [10] = a := by
  unfold Lib.trimSuffix
  rw [if_pos (has_10 a)]
  simp
theorem no_10 {r : List UInt8} (h : ∀ c ∈ r, c ≠ 10) : Lib.hasSuffix r [10] = false := by
  cases hs : Lib.hasSuffix r [10] with
  | false => rfl
  | true =>
    unfold Lib.hasSuffix at hs
    rw [List.isSuffixOf_iff_suffix] at hs
    exact absurd rfl (h 10 (hs.subset (by simp)))

theorem cutsuf_10 (a : List UInt8) (w : World) (ha : a.length ≤ 100000) :
    Calls Tryd.prog 30 #[S (a ++ [10]), .string ⟨#[10]⟩] w fun e w' => e = .returned (.tuple #[S a, .bool true]) ∧ w' = w := by
  have h := Tryd.strings_CutSuffix ⟨(a ++ [10]).toArray⟩ ⟨#[10]⟩ w (by simp [ByteArray.size]; omega)
  have e1 : Lib.trimSuffix (ByteArray.mk (a ++ [10]).toArray).data.toList (ByteArray.mk #[10]).data.toList = a := trim_10 a
  have e2 : Lib.hasSuffix (ByteArray.mk (a ++ [10]).toArray).data.toList (ByteArray.mk #[10]).data.toList = true := has_10 a
  rw [e1, e2] at h
  exact h
theorem cutsuf_no (x : List UInt8) (w : World) (ha : x.length ≤ 100000) (hx : ∀ c ∈ x, c ≠ 10) :
    ∃ y, Calls Tryd.prog 30 #[S x, .string ⟨#[10]⟩] w fun e w' => e = .returned (.tuple #[S y, .bool false]) ∧ w' = w := by
  have h := Tryd.strings_CutSuffix ⟨x.toArray⟩ ⟨#[10]⟩ w (by simp [ByteArray.size]; omega)
  have e2 : Lib.hasSuffix (ByteArray.mk x.toArray).data.toList (ByteArray.mk #[10]).data.toList = false := no_10 hx
  rw [e2] at h
  exact ⟨_, h⟩

set_option maxRecDepth 100000 in
set_option maxHeartbeats 1000000 in
theorem open_any (es : List Ev) (s : BS) (r : List UInt8) (w : World) (hlog : Logs es s) (hr : ∀ c ∈ r, c ≠ 10) (hl : (txtE es ++ r).length ≤ 2000) (ht : TG w) (hm : ML w) :
    Calls Tryd.prog 14 #[S (txtE es ++ r)] w fun e w' => (∃ b, e = .returned (.tuple #[.pointer (some ⟨b, 0, none⟩), .int .i64 (es.length : Int), .nilIface]) ∧ Bks nF w.heap.size b s w') ∧ Below w.heap.size w w' := by
  have h1 : 1 ≤ 3 := by omega
  have hch := chunks_txt (hlog.txt.2.2.2) r hr
  have hrl : r.length ≤ 2000 := by rw [List.length_append] at hl; omega
  have HLOG := Lib.hid hlog; have HT := Lib.hid ht; have HM := Lib.hid hm; have HCH := Lib.hid hch; have HR := Lib.hid hr
  clear hlog ht hm hch hr
  generalize txtE es ++ r = T at *
  refine (callsIn_wide (n := 3)).1 ?_
  refine callsIn_of_wp_marks Tryd.func14 rfl trivial ?_ rfl
  simp only [Tryd.ntmps14, List.size_toArray, List.length_cons, List.length_nil, Nat.reduceAdd, Nat.reduceSub, Array.replicate_succ, Array.replicate_zero, List.push_toArray, List.append_toArray, List.nil_append, List.cons_append]
  gi_wp2_with fail
  refine ⟨trivial, ?_⟩
  refine (callsIn_wide.2 (new_any nF _ (fun _ _ h => by cases h))).mono ?_
  rintro e w1 ⟨rfl, hk1, hb1⟩
  rw [w3_size] at hk1 hb1
  have HI0 : Hid (OpI es w w1.heap.size 0 ((w1.alloc (qObj (w.heap.size + 1 + 1 + 1))).alloc (.cells #[S T] 9))) := Lib.hid
    ⟨⟨_, rfl, hk1.add2 _ _⟩, (hb1.alloc (by have := hb1.size; rw [w3_size] at this; exact this) _).alloc (by have := hb1.size; rw [w3_size] at this; simp; omega) _⟩
  have hz := hb1.size
  rw [w3_size] at hz
  have HZ := Lib.hid hz
  clear hk1 hb1 hz
  gi_wp2_with fail
  refine ⟨trivial, ?_⟩
  refine (lines_in _ T _).mono ?_
  rintro e w' ⟨rfl, rfl⟩
  gi_wp2_with fail
  have hbox : ((w1.alloc (qObj (w.heap.size + 1 + 1 + 1))).alloc (.cells #[S T] 9)).heap[w1.heap.size + 1]? = some (.cells #[S T] 9) := by
    have := heap_alloc_new (w1.alloc (qObj (w.heap.size + 1 + 1 + 1))) (.cells #[S T] 9)
    rwa [World.size_alloc] at this
  have hsz : ((w1.alloc (qObj (w.heap.size + 1 + 1 + 1))).alloc (.cells #[S T] 9)).heap.size = w1.heap.size + 1 + 1 := by simp
  change Code.wpIn _ _ _ _ _ _ ((w1.alloc (qObj (w.heap.size + 1 + 1 + 1))).alloc (.cells #[S T] 9))
  generalize hW0 : (w1.alloc (qObj (w.heap.size + 1 + 1 + 1))).alloc (.cells #[S T] 9) = W0 at *
  have hzq := HZ.out
  refine rangeFunc_cell rfl h1 (gf := 40) (lb := #[.pointer (some ⟨w1.heap.size + 1, 0, none⟩)]) rfl trivial (enters_of Tryd.func40 (by kernel_rfl) rfl)
    (encs := fun x : List UInt8 => #[S x]) (c := ⟨w1.heap.size + 1, 0, none⟩) (xs := chunks T) (lines1_in 2 (by omega) (w1.heap.size + 1) T (by omega) W0 hbox) (by show w1.heap.size + 1 < _; omega) (fun _ => rfl)
    (fun pre W => pre.length ≤ es.length ∧ OpI es w w1.heap.size pre.length W)
    (fun cd pre W => cd = .exit 0 ∧ OpI es w w1.heap.size es.length W)
    (OwnFrom.and (ownFrom_pure _ _) (OpI.own (fun pre : List (List UInt8) => pre.length) (by omega)))
    (fun s W h => ⟨fun v => ⟨h.1, (OpI.free (fun pre : List (List UInt8) => pre.length) hzq s W h.2).1 v⟩, h.1, (OpI.free (fun pre : List (List UInt8) => pre.length) hzq s W h.2).2⟩)
    (fun cd => OwnFrom.and (ownFrom_pure _ _) (OpI.own (fun _ : List (List UInt8) => es.length) (by omega)))
    ⟨Nat.zero_le _, HI0.out⟩
    (fun x => { tmps := #[S T, undef, .pointer (some ⟨w.heap.size, 0, none⟩), .pointer (some ⟨w.heap.size + 1, 0, none⟩), .pointer (some ⟨w.heap.size + 1 + 1, 0, none⟩), .pointer (some ⟨w1.heap.size, 0, none⟩), S x, undef, undef, undef, S T, .int .i64 (T.length : Int), .bool (decide ((2000 : Int) < (T.length : Int))), undef, .pointer (some ⟨w.heap.size + 1 + 1 + 1, 0, none⟩), S T, .func (.func 40) #[] #[.pointer (some ⟨w1.heap.size + 1, 0, none⟩)], S x, undef, undef, undef, undef, undef, undef, undef, undef, undef, undef, undef, undef, undef, undef, undef, undef, undef, undef, undef, undef, undef, undef, undef], defers := [] }) ?assign ?body ?done ?stop
  case assign =>
    intro l' x W K hK
    gi_wp2
    exact hK
  case body =>
    rintro l' pre x W ⟨hpl, hI⟩ hpre
    have HI := Lib.hid hI
    obtain ⟨⟨o, ho, hk⟩, hb⟩ := hI
    have hbw := OpI.below HI.out
    have cq : W.cell? ⟨w1.heap.size, 0, none⟩ = some (.pointer (some ⟨w.heap.size + 1 + 1 + 1, 0, none⟩)) := by rw [Lib.cell_of_heap (hk.frame (FQ_q _ _ _ _))]; rfl
    rcases chunk_at HCH.out hpre hpl with ⟨hlt, hx⟩ | ⟨heq, rfl⟩
    · obtain ⟨hat, hnext⟩ := HLOG.out.at_.2 pre.length hpl
      obtain ⟨h0, hg, hst⟩ := hnext hlt
      have hsm := hat.txt.2.2.1
      clear hat hnext
      generalize es.getD pre.length (.cut 0 0) = ev at *
      subst hx
      have HST := Lib.hid hst
      clear hst
      obtain ⟨F', hk', hsub, hwall⟩ := hk.walls
      have hll := evT_len hg
      have hcs := cutsuf_10 (evT ev) W (by omega)
      have HCS := Lib.hid hcs
      have HLN := Lib.hid (line_ev F' (w.heap.size + 1 + 1 + 1) (w.heap.size + 1 + 1 + 1) _ ev W hk' (HT.out.below hbw (Nat.le_refl _)) (HM.out.below hbw HM.out.lt) hsm hg (by have := hb.size; rw [w3_size] at this; exact this) (by have := HT.out.lt; omega) (by have := HM.out.lt; omega))
      rw [h0] at HLN
      have HK := Lib.hid hk; have HSUB := Lib.hid hsub; have HWALL := Lib.hid hwall; have HO := Lib.hid ho
      clear hcs hk' hsub hwall hk h0 ho
      generalize evT ev = X at *
      gi_wp2_with fail
      refine ⟨trivial, ?_⟩
      refine ((callsIn_wide.2 HCS.out).inRound l').mono ?_
      rintro e' w' ⟨rfl, rfl⟩
      gi_wp2_with fail
      refine ⟨trivial, ?_⟩
      refine ((callsIn_wide.2 HLN.out).inRound l').mono ?_
      rintro e' W' ⟨rfl, hb', hk2⟩
      rw [show errV 0 = .nilIface from rfl]
      have HB' := Lib.hid hb'; have HK2 := Lib.hid hk2
      clear hb' hk2 HLN HCS
      gi_wp2_with fail
      refine ⟨⟨HB'.out.size, fun k o' _ hk ho' => HK2.out.frame (HWALL.out k o' hk ho')⟩, (HK2.out.frame (HSUB.out _ _ (FQ_s (by omega) _ _))).trans (HK.out.frame (FQ_s (by omega) _ _)).symm, by simp; omega, ⟨o, HO.out, ?_⟩, hb.trans HB'.out⟩
      rw [List.length_append, List.length_cons, List.length_nil, Nat.zero_add, HST.out]
      exact HK2.out.weaken HSUB.out
    · obtain ⟨y, hcs⟩ := cutsuf_no x W (by omega) HR.out
      have HCS := Lib.hid hcs
      clear hcs hk ho
      gi_wp2_with fail
      refine ⟨trivial, ?_⟩
      refine ((callsIn_wide.2 HCS.out).inRound l').mono ?_
      rintro e' w' ⟨rfl, rfl⟩
      gi_wp2_with fail
      exact ⟨KeepsFrom.refl _ _, rfl, by rw [← heq]; exact HI.out⟩
  case done =>
    rintro D W hD ⟨hxl, hI⟩ hK
    have hlen : (chunks T).length = es.length := by
      have := congrArg List.length HCH.out
      rw [List.length_append, List.length_map] at this
      omega
    rw [hlen] at hI
    have HO := Lib.hid (O3.new hI.2)
    have HI := Lib.hid hI
    obtain ⟨⟨o, ho, hk⟩, hb⟩ := hI
    rw [HLOG.out.at_.1] at hk
    have hq : W.heap[w1.heap.size]? = some (qObj (w.heap.size + 1 + 1 + 1)) := hk.frame (FQ_q _ _ _ _)
    have cq : W.cell? ⟨w1.heap.size, 0, none⟩ = some (.pointer (some ⟨w.heap.size + 1 + 1 + 1, 0, none⟩)) := by rw [Lib.cell_of_heap hq]; rfl
    obtain ⟨p, hp, hkat⟩ := hk
    obtain ⟨_, _, c3, _, _, _⟩ := hkat.cells
    have HKA := Lib.hid (show Bk _ _ _ _ _ _ W from ⟨p, hp, hkat⟩)
    obtain ⟨b0, b1, b2⟩ := HO.out
    have k0 := b0.cell; have k1 := b1.cell; have k2 := b2.cell
    have g0 := b0.frozen; have g1 := b1.frozen; have g2 := b2.frozen
    clear hkat hp hq hb b0 b1 b2
    gi_wp2_with fail
    gi_region
    all_goals
      gi_wp2_with fail
      have hK' := (((KeepsOthers.setCell W ⟨w.heap.size, 0, none⟩ (.pointer (some ⟨w.heap.size + 1 + 1 + 1, 0, none⟩))).trans (KeepsOthers.setCell _ ⟨w.heap.size + 1, 0, none⟩ (.int .i64 (s.many : Int)))).trans (KeepsOthers.setCell _ ⟨w.heap.size + 1 + 1, 0, none⟩ .nilIface)).same D _ hK rfl
      refine ⟨by simp, .inl ⟨_, _, rfl, run_takeDeferred hK', ?_⟩⟩
      have hO5 : O3 w.heap.size (.pointer (some ⟨w.heap.size + 1 + 1 + 1, 0, none⟩)) (.int .i64 (s.many : Int)) .nilIface (((W.setCell ⟨w.heap.size, 0, none⟩ (.pointer (some ⟨w.heap.size + 1 + 1 + 1, 0, none⟩))).setCell ⟨w.heap.size + 1, 0, none⟩ (.int .i64 (s.many : Int))).setCell ⟨w.heap.size + 1 + 1, 0, none⟩ .nilIface).drew := HO.out.set _ _ _
      obtain ⟨d1, d2, d3⟩ := hO5.put (D := D) (o := .deferred none) (by omega)
      have e1 := d1.cell
      have e2 := d2.cell
      have e3 := d3.cell
      have hmany := HLOG.out.txt.2.1
      refine ⟨.tuple #[.pointer (some ⟨w.heap.size + 1 + 1 + 1, 0, none⟩), .int .i64 (s.many : Int), .nilIface], by simp [results, Tryd.f14, go_sem, e1, e2, e3], ⟨⟨w.heap.size + 1 + 1 + 1, by rw [hmany], ?_⟩, ?_⟩⟩
      · refine HKA.out.refence (by omega) (fun k o' hk _ hw ho' => ?_) (fun _ _ h => by cases h)
        have hkD : k ≠ D := fun e => by subst e; rw [hK] at hw; cases hw; cases ho'
        exact (World.putObj_heap_other hkD).trans ((Below.heap_setCell _ _ _ k (by show k ≠ w.heap.size + 1 + 1; omega)).trans ((Below.heap_setCell _ _ _ k (by show k ≠ w.heap.size + 1; omega)).trans ((Below.heap_setCell _ _ _ k (by show k ≠ w.heap.size; omega)).trans hw)))
      · have hBs := (((OpI.below HI.out).setCell (p := ⟨w.heap.size, 0, none⟩) (Nat.le_refl _) (.pointer (some ⟨w.heap.size + 1 + 1 + 1, 0, none⟩))).setCell (p := ⟨w.heap.size + 1, 0, none⟩) (Nat.le_add_right _ 1) (.int .i64 (s.many : Int))).setCell (p := ⟨w.heap.size + 1 + 1, 0, none⟩) (by show w.heap.size ≤ w.heap.size + 1 + 1; omega) .nilIface
        exact hBs.drew.trans (belowK_b (w := w) (Nat.le_refl _) _ D _ _ (by omega) hK' rfl rfl)
  case stop =>
    rintro D cd pre W hD hpre ⟨rfl, hI⟩ hK
    have HO := Lib.hid (O3.new hI.2)
    have HI := Lib.hid hI
    obtain ⟨⟨o, ho, hk⟩, hb⟩ := hI
    rw [HLOG.out.at_.1] at hk
    have hq : W.heap[w1.heap.size]? = some (qObj (w.heap.size + 1 + 1 + 1)) := hk.frame (FQ_q _ _ _ _)
    have cq : W.cell? ⟨w1.heap.size, 0, none⟩ = some (.pointer (some ⟨w.heap.size + 1 + 1 + 1, 0, none⟩)) := by rw [Lib.cell_of_heap hq]; rfl
    obtain ⟨p, hp, hkat⟩ := hk
    obtain ⟨_, _, c3, _, _, _⟩ := hkat.cells
    have HKA := Lib.hid (show Bk _ _ _ _ _ _ W from ⟨p, hp, hkat⟩)
    obtain ⟨b0, b1, b2⟩ := HO.out
    have k0 := b0.cell; have k1 := b1.cell; have k2 := b2.cell
    have g0 := b0.frozen; have g1 := b1.frozen; have g2 := b2.frozen
    clear hkat hp hq hb b0 b1 b2
    gi_wp2_with fail
    gi_region
    all_goals
      gi_wp2_with fail
      have hK' := (((KeepsOthers.setCell W ⟨w.heap.size, 0, none⟩ (.pointer (some ⟨w.heap.size + 1 + 1 + 1, 0, none⟩))).trans (KeepsOthers.setCell _ ⟨w.heap.size + 1, 0, none⟩ (.int .i64 (s.many : Int)))).trans (KeepsOthers.setCell _ ⟨w.heap.size + 1 + 1, 0, none⟩ .nilIface)).same D _ hK rfl
      refine ⟨by simp, .inl ⟨_, _, rfl, run_takeDeferred hK', ?_⟩⟩
      have hO5 : O3 w.heap.size (.pointer (some ⟨w.heap.size + 1 + 1 + 1, 0, none⟩)) (.int .i64 (s.many : Int)) .nilIface (((W.setCell ⟨w.heap.size, 0, none⟩ (.pointer (some ⟨w.heap.size + 1 + 1 + 1, 0, none⟩))).setCell ⟨w.heap.size + 1, 0, none⟩ (.int .i64 (s.many : Int))).setCell ⟨w.heap.size + 1 + 1, 0, none⟩ .nilIface).drew := HO.out.set _ _ _
      obtain ⟨d1, d2, d3⟩ := hO5.put (D := D) (o := .deferred none) (by omega)
      have e1 := d1.cell
      have e2 := d2.cell
      have e3 := d3.cell
      have hmany := HLOG.out.txt.2.1
      refine ⟨.tuple #[.pointer (some ⟨w.heap.size + 1 + 1 + 1, 0, none⟩), .int .i64 (s.many : Int), .nilIface], by simp [results, Tryd.f14, go_sem, e1, e2, e3], ⟨⟨w.heap.size + 1 + 1 + 1, by rw [hmany], ?_⟩, ?_⟩⟩
      · refine HKA.out.refence (by omega) (fun k o' hk _ hw ho' => ?_) (fun _ _ h => by cases h)
        have hkD : k ≠ D := fun e => by subst e; rw [hK] at hw; cases hw; cases ho'
        exact (World.putObj_heap_other hkD).trans ((Below.heap_setCell _ _ _ k (by show k ≠ w.heap.size + 1 + 1; omega)).trans ((Below.heap_setCell _ _ _ k (by show k ≠ w.heap.size + 1; omega)).trans ((Below.heap_setCell _ _ _ k (by show k ≠ w.heap.size; omega)).trans hw)))
      · have hBs := (((OpI.below HI.out).setCell (p := ⟨w.heap.size, 0, none⟩) (Nat.le_refl _) (.pointer (some ⟨w.heap.size + 1 + 1 + 1, 0, none⟩))).setCell (p := ⟨w.heap.size + 1, 0, none⟩) (Nat.le_add_right _ 1) (.int .i64 (s.many : Int))).setCell (p := ⟨w.heap.size + 1 + 1, 0, none⟩) (by show w.heap.size ≤ w.heap.size + 1 + 1; omega) .nilIface
        exact hBs.drew.trans (belowK_b (w := w) (Nat.le_refl _) _ D _ _ (by omega) hK' rfl rfl)
end Go.Proofs.YtgmmlblefealjaaDoor
