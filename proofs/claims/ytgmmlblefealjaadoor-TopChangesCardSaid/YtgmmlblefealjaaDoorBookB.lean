/- A book in memory: its text, its builder (at the second cell) and how many lines; strings.Builder's methods at that builder. -/
import Derived.Test.YtgmmlblefealjaaDoorWords
import Derived.Test.YtgmmlblefealjaaDoorShelf
import Derived.Lib.Builder
import Derived.Lib.FrozenHead
import Derived.Lib.FrozenHead2
import Derived.Lib.AppendStr
import Derived.Lib.Strings
import Derived.Lib.UnsafeStr
import Derived.Lib.SmallJoins
import Derived.Lib.ItoaLen
import Derived.Laws.Externs
import Derived.Shelf.RegionOpen
namespace Go.Proofs.YtgmmlblefealjaaDoor
open Go.RowKit

abbrev S (l : List UInt8) : Value := .string ⟨l.toArray⟩
def errV (k : Int) : Value := if k = 0 then .nilIface else .iface 56 (.int .i64 k)
theorem err_ne {k : Int} (h : k ≠ 0) : errV k = .iface 56 (.int .i64 k) := by unfold errV; rw [if_neg h]
theorem bk_lies : liesAt Tryd.prog Tryd.prog.depth 55 (4 / Tryd.prog.cellsOf 55) 1 49 1 = true := by kernel_rfl
theorem bld_size : (Tryd.prog.info? 49).map (·.size) = some 2 := by kernel_rfl
theorem info_byte : (Tryd.prog.info? 5).map (fun i => (i.zero, i.size, i.bytes)) = some (some (.int .u8 0), 1, 1) := by kernel_rfl
theorem cells_byte : Tryd.prog.cellsOf 5 = 1 := by kernel_rfl

/-- The book in block b; F: blocks that are not the book's, with what they hold. -/
def BkAt (F : Nat → Option Obj) (B b : Nat) (p : Value) (now txt : List UInt8) (many : Nat) (w : World) : Prop :=
  B ≤ b ∧ ∃ v, w.heap[b]? = some (.cells #[S now, p, v, .int .i64 (many : Int)] 55 (0, 0)) ∧ w.ownsRowF B 5 1 v (Lib.byteCells txt).length (Lib.byteCells txt) ∧ v.ownBlock ≠ some b ∧ ∀ k o, F k = some o → w.heap[k]? = some o ∧ k ≠ b ∧ v.ownBlock ≠ some k
def Bk (F : Nat → Option Obj) (B b : Nat) (now txt : List UInt8) (many : Nat) (w : World) : Prop := ∃ p, (p = .pointer none ∨ p = .pointer (some ⟨b, 1, none⟩)) ∧ BkAt F B b p now txt many w
section
variable {F : Nat → Option Obj} {B b many : Nat} {p : Value} {now txt : List UInt8} {w w' : World}
theorem BkAt.lt (h : BkAt F B b p now txt many w) : b < w.heap.size := by
  obtain ⟨_, v, hb, _⟩ := h
  exact (Array.getElem?_eq_some_iff.1 hb).1
theorem BkAt.cells (h : BkAt F B b p now txt many w) : w.cell? ⟨b, 0, none⟩ = some (S now) ∧ w.cell? ⟨b, 1, none⟩ = some p ∧ w.cell? ⟨b, 3, none⟩ = some (.int .i64 (many : Int)) ∧ w.frozen? ⟨b, 0, none⟩ = false ∧ w.frozen? ⟨b, 1, none⟩ = false ∧ w.frozen? ⟨b, 3, none⟩ = false := by
  obtain ⟨_, v, hb, _⟩ := h
  exact ⟨by rw [Lib.cell_of_heap hb]; rfl, by rw [Lib.cell_of_heap hb]; rfl, by rw [Lib.cell_of_heap hb]; rfl, Lib.frozen_of_heap hb 0, Lib.frozen_of_heap hb 1, Lib.frozen_of_heap hb 3⟩
theorem ownF_stay {B e size n : Nat} {v : Value} {xs : List Value} (h : w.ownsRowF B e size v n xs) (hs : ∀ y, v.ownBlock = some y → w'.heap[y]? = w.heap[y]?) : w'.ownsRowF B e size v n xs := by
  refine ⟨h.1, ?_⟩
  rcases h.2 with h2 | ⟨g, cap, cur, fz, rfl, hg, hh, r⟩
  · exact .inl h2
  · exact .inr ⟨g, cap, cur, fz, rfl, hg, (hs g rfl).trans hh, r⟩
theorem BkAt.set_ (h : BkAt F B b p now txt many w) (i : Nat) (u : Value) (p' : Value) (now' : List UInt8) (many' : Nat) (he : ∀ v, ([S now, p, v, .int .i64 (many : Int)] : List Value).set i u = [S now', p', v, .int .i64 (many' : Int)]) : BkAt F B b p' now' txt many' (w.setCell ⟨b, i, none⟩ u) := by
  obtain ⟨hB, v, hb, hown, hne, hF⟩ := h
  refine ⟨hB, v, ?_, ownF_stay hown fun y hy => Below.heap_setCell w _ _ y (fun e => hne (by rw [hy, e])), hne, fun k o hk => ⟨(Below.heap_setCell w _ _ k (hF k o hk).2.1).trans (hF k o hk).1, (hF k o hk).2⟩⟩
  simp [World.setCell, Array.getElem?_modify, hb]
  exact he v
theorem BkAt.below (h : BkAt F B b p now txt many w) (hb : Below w.heap.size w w') : BkAt F B b p now txt many w' := by
  have hl := h.lt
  obtain ⟨hB, v, hbk, hown, hne, hF⟩ := h
  exact ⟨hB, v, (hb.block b hl).trans hbk, ownF_stay hown fun y hy => hb.block y (hown.lt y hy).2, hne, fun k o hk => ⟨(hb.block k (Array.getElem?_eq_some_iff.1 (hF k o hk).1).1).trans (hF k o hk).1, (hF k o hk).2⟩⟩
/-- Other foreign blocks: where nothing of the book's turned. -/
theorem BkAt.turn {F' : Nat → Option Obj} (h : BkAt F B b p now txt many w) (hs : ∀ k, F k = none → k < w.heap.size → w'.heap[k]? = w.heap[k]?) (hF' : ∀ k o, F' k = some o → w'.heap[k]? = some o ∧ (∃ o', F k = some o')) : BkAt F' B b p now txt many w' := by
  have hl := h.lt
  obtain ⟨hB, v, hbk, hown, hne, hF⟩ := h
  have nb : F b = none := by
    cases hb : F b with
    | none => rfl
    | some o => exact absurd rfl (hF b o hb).2.1
  refine ⟨hB, v, (hs b nb hl).trans hbk, ownF_stay hown fun y hy => hs y ?_ (hown.lt y hy).2, hne, fun k o hk => ?_⟩
  · cases hb : F y with
    | none => rfl
    | some o => exact absurd hy (hF y o hb).2.2
  · obtain ⟨h1, o', h2⟩ := hF' k o hk
    exact ⟨h1, (hF k o' h2).2⟩
theorem Bk.turn {F' : Nat → Option Obj} (h : Bk F B b now txt many w) (hs : ∀ k, F k = none → k < w.heap.size → w'.heap[k]? = w.heap[k]?) (hF' : ∀ k o, F' k = some o → w'.heap[k]? = some o ∧ (∃ o', F k = some o')) : Bk F' B b now txt many w' := by
  obtain ⟨p, hp, h⟩ := h
  exact ⟨p, hp, h.turn hs hF'⟩
theorem Bk.frame (h : Bk F B b now txt many w) {k : Nat} {o : Obj} (hk : F k = some o) : w.heap[k]? = some o := by
  obtain ⟨p, hp, hB, v, hbk, hown, hne, hF⟩ := h
  exact (hF k o hk).1
theorem Bk.below (h : Bk F B b now txt many w) (hb : Below w.heap.size w w') : Bk F B b now txt many w' := by
  obtain ⟨p, hp, h⟩ := h
  exact ⟨p, hp, h.below hb⟩
theorem Bk.lt (h : Bk F B b now txt many w) : b < w.heap.size := by obtain ⟨p, hp, h⟩ := h; exact h.lt
theorem Bk.le (h : Bk F B b now txt many w) : B ≤ b := by obtain ⟨p, hp, h⟩ := h; exact h.1
end

set_option maxHeartbeats 1000000 in
set_option maxRecDepth 100000 in
theorem bkCheck (F : Nat → Option Obj) (B b : Nat) (now txt : List UInt8) (many : Nat) (w : World) (h : Bk F B b now txt many w) :
    Calls Tryd.prog 35 #[.pointer (some ⟨b, 1, none⟩)] w fun e w' => e = .returned (.tuple #[]) ∧ BkAt F B b (.pointer (some ⟨b, 1, none⟩)) now txt many w' ∧ Below B w w' ∧ w'.heap.size = w.heap.size := by
  obtain ⟨p, hp, h⟩ := h
  obtain ⟨c0, c1, c3, f0, f1, f3⟩ := h.cells
  obtain ⟨j, hj, hjs⟩ := Option.map_eq_some_iff.1 bld_size
  have hsh : w.shape? b = some (55, 4) := by
    obtain ⟨_, v, hb, _⟩ := h
    simp [World.shape?, hb]
  rcases hp with rfl | rfl
  · have hto := Lib.run_to_unsafe (P := Tryd.prog) w ⟨b, 1, none⟩ Tryd.underlying46 Tryd.underlying76 hj (by rw [hjs]; decide) hsh (by show 1 < 4; decide)
    have hfrom := Lib.run_from_unsafe (P := Tryd.prog) w ⟨b, 1, none⟩ Tryd.underlying76 Tryd.underlying46 hj hsh bk_lies
    have hne := @run_callFunc_extern Tryd.prog 46 _ Extern.AbiNoEscape.same Tryd.func46 (by kernel_rfl) (by kernel_rfl) (by kernel_rfl) (by kernel_rfl)
    have hno := Lib.run_noEscape (P := Tryd.prog) w (.pointer (some ⟨b, 1, none⟩))
    have hfin := h.set_ 1 (.pointer (some ⟨b, 1, none⟩)) (.pointer (some ⟨b, 1, none⟩)) now many (fun v => rfl)
    have HF := Lib.hid hfin
    have HB := Lib.hid ((Below.refl B w).setCell (p := ⟨b, 1, none⟩) h.1 (.pointer (some ⟨b, 1, none⟩)))
    have hn2 := fun W => Lib.run_neq_ptr_same (P := Tryd.prog) W ⟨b, 1, none⟩ Tryd.underlying46 hj
    clear hfin h
    go_enter Tryd.func35, Tryd.ntmps35
    go_wp2
    go_end0
    exact ⟨rfl, HF.out, HB.out, by simp [World.setCell]⟩
  · have hn2 := Lib.run_neq_ptr_same (P := Tryd.prog) w ⟨b, 1, none⟩ Tryd.underlying46 hj
    have HF := Lib.hid h
    clear h
    go_enter Tryd.func35, Tryd.ntmps35
    go_wp2
    go_end0
    exact ⟨rfl, HF.out, Below.refl B _, rfl⟩

/-- Where what 'append' answers lies: in the block it had, or in a new one. -/
theorem append_where {P : Program} {w w' : World} {B : Nat} {t u ty e : TypeId} {i : TypeInfo} {v v' : Value} {n : Nat} {xs : List Value} {s : ByteArray} (ht : P.underlying t = some (.slice e)) (hu : P.underlying u = some .string) (hi : P.info? e = some i) (hz : i.zero = some (.int .u8 0))
    (hsize : i.size = 1) (hby : i.bytes = 1) (hown : w.ownsRowF B e 1 v n xs) (h63 : n + s.size ≤ maxLen) (hbytes : n + s.size ≤ 140737488355328)
    (hr : (Builtin.append_ #[t, u] ty #[v, .string s]).run P w = .ok v' w') : ∀ k, v'.ownBlock = some k → v.ownBlock = some k ∨ w.heap.size ≤ k := by
  have hsmall : n + s.size ≤ 9223372036854775807 := by simp only [maxLen] at h63; omega
  rcases hown.2 with ⟨rfl, rfl⟩ | ⟨g, cap, cur, fz, rfl, hbg, hg, hfz, hnc, hcm, hcs, htake⟩
  · obtain ⟨v1, w1, h1, h2, _⟩ := Lib.run_append_own_stringF (P := P) w w.heap.size t u ty e i ht hu hi hz hsize hby (.slice none 0 0) 0 xs ⟨hown.1, .inl ⟨rfl, rfl⟩⟩ s h63 hbytes (Nat.le_refl _)
    rw [hr] at h1
    injection h1 with h1
    subst h1
    intro k hk
    exact .inr (h2.lt k hk).1
  · have hxl : xs.length = n := by simpa using hown.1
    have hcs' : cur.size = cap := by simpa using hcs
    by_cases hroom : n + s.size ≤ cap
    · have h1 := Lib.run_append_room_stringF (P := P) w t u ty e i ht hu hi hsize g n cap cur fz hg (by simpa using hfz) s hroom (by omega)
      rw [hr] at h1
      injection h1 with h1
      subst h1
      intro k hk
      exact .inl hk
    · have h1 := Lib.run_append_grow_string (P := P) w t u ty e i (.int .u8 0) ht hu hi hz ⟨g, 0, none⟩ n cap xs (by rw [hsize]; simpa using hxl) (hown.cells (g := g) rfl) s (by omega) (by omega) (by rw [hby]; exact growslice_fits (by omega) (by omega))
      rw [hr] at h1
      injection h1 with h1
      subst h1
      intro k hk
      simp only [Value.ownBlock] at hk
      exact .inr (by have := Option.some.inj hk; omega)
/-- The operation, for the walk. -/
theorem wpList_append_far {P : Program} {w : World} {ops : Array Oper} {rest : List Oper} {o : Oper} {a : Act} {Q : Exit → Act → World → Prop} (hgd : o.guard = none) (sl x : Operand) (t u : TypeId)
    (ho : o.op = .call { callee := .builtin .append, args := #[sl, x], argTypes := #[t, u] })
    (base : Nat) (e : TypeId) (i : TypeInfo) (ht : P.underlying t = some (.slice e)) (hu : P.underlying u = some .string) (hi : P.info? e = some i) (hz : i.zero = some (.int .u8 0))
    (hsize : i.size = 1) (hby : i.bytes = 1) (v : Value) (n : Nat) (xs : List Value) (hs : a.eval sl = v) (hown : w.ownsRowF base e 1 v n xs) (s : ByteArray) (hx : a.eval x = .string s)
    (h63 : n + s.size ≤ maxLen) (hbytes : n + s.size ≤ 140737488355328) (hbase : base ≤ w.heap.size)
    (h : ∀ v' w', w'.ownsRowF base e 1 v' (n + s.size) (xs ++ Lib.strCells s) → w.grownBy w' v.ownBlock → (∀ k, v'.ownBlock = some k → v.ownBlock = some k ∨ w.heap.size ≤ k) → wpList P ops Q rest (a.put o.dst v') w') : wpList P ops Q (o :: rest) a w := by
  refine wpList_plain hgd fun K hK => ?_
  obtain ⟨v', w', hr, h2, h3, h4⟩ := Lib.run_append_own_stringF (P := P) w base t u o.type e i ht hu hi hz hsize hby v n xs hown s h63 hbytes hbase
  have h5 := append_where (P := P) (ty := o.type) ht hu hi hz hsize hby hown h63 hbytes hr
  unfold Oper.wp execOp
  simp only [ho, resolve, invoke, builtin, Sem.run_bind, Sem.run_pure, Result.andThen_ok, List.map_toArray, List.map_cons, List.map_nil, hs, hx, hr]
  exact hK _ _ (h v' w' h2 h3 h5)

set_option maxHeartbeats 1000000 in
set_option maxRecDepth 100000 in
theorem bkWrite (F : Nat → Option Obj) (B b : Nat) (now txt s : List UInt8) (many : Nat) (w : World) (h : Bk F B b now txt many w) (hlen : txt.length + s.length ≤ 1000000) :
    Calls Tryd.prog 37 #[.pointer (some ⟨b, 1, none⟩), S s] w fun e w' => e = .returned (.tuple #[.int .i64 s.length, .nilIface]) ∧ Bk F B b now (txt ++ s) many w' ∧ Below B w w' := by
  obtain ⟨i0, hi, hz0, hz1, hz2⟩ := info_parts info_byte
  have hBb := h.le
  have hlt0 := h.lt
  go_enter Tryd.func37, Tryd.ntmps37
  go_wp2_with fail
  refine (bkCheck F B b now txt many w h).mono ?_
  rintro e w1 ⟨rfl, ⟨hB, v, hbk, hown, hne, hF⟩, hb1, hz⟩
  have hlt : b < w1.heap.size := (Array.getElem?_eq_some_iff.1 hbk).1
  have c2 : w1.cell? ⟨b, 2, none⟩ = some v := by rw [Lib.cell_of_heap hbk]; rfl
  have HZ := Lib.hid hz
  clear hz h
  go_wp2_with (at_builtin; refine wpList_append_far rfl _ _ 47 9 rfl B 5 i0 Tryd.underlying47 Tryd.underlying9 hi hz0 hz1 hz2 _ _ _ rfl hown ⟨s.toArray⟩ rfl ?c3 ?c4 ?c5 ?_)
  case c3 => simp only [maxLen, Lib.byteCells_length, ByteArray.size, List.size_toArray]; omega
  case c4 => simp only [Lib.byteCells_length, ByteArray.size, List.size_toArray]; omega
  case c5 => omega
  intro v' w2 hown' hgrow hwh
  have hFF : ∀ k o, F k = some o → w2.heap[k]? = some o ∧ k ≠ b ∧ v'.ownBlock ≠ some k := fun k o hk => by
    obtain ⟨f1, f2, f3⟩ := hF k o hk
    have fl : k < w1.heap.size := (Array.getElem?_eq_some_iff.1 f1).1
    refine ⟨(hgrow.block k fl (fun e => f3 e.symm)).trans f1, f2, fun e => ?_⟩
    rcases hwh k e with h1 | h1
    · exact f3 h1
    · omega
  have hb2 : w2.heap[b]? = some (.cells #[S now, .pointer (some ⟨b, 1, none⟩), v, .int .i64 (many : Int)] 55 (0, 0)) := by
    rw [hgrow.block b hlt (fun e => hne e.symm)]
    exact hbk
  have d2 : w2.cell? ⟨b, 2, none⟩ = some v := by rw [Lib.cell_of_heap hb2]; rfl
  have f2 : w2.frozen? ⟨b, 2, none⟩ = false := Lib.frozen_of_heap hb2 2
  have hsz : (ByteArray.mk s.toArray).size = s.length := by simp [ByteArray.size]
  obtain ⟨ao, n', cap, hv'⟩ : ∃ ao n' cap, v' = .slice ao n' cap := by
    rcases hown'.2 with ⟨hv, _⟩ | ⟨g, cap, cur, fz, hv, _⟩
    · exact ⟨_, _, _, hv⟩
    · exact ⟨_, _, _, hv⟩
  have hcs : Lib.byteCells txt ++ Lib.strCells ⟨s.toArray⟩ = Lib.byteCells (txt ++ s) := by simp [Lib.byteCells, Lib.strCells]
  have hne' : v'.ownBlock ≠ some b := Lib.ownBlock_neF hown' hb2 (by decide)
  have HB : Hid (Bk F B b now (txt ++ s) many (w2.setCell ⟨b, 2, none⟩ v')) := by
    refine ⟨_, .inr rfl, hB, v', ?_, ?_, hne', fun k o hk => ⟨(Below.heap_setCell w2 _ _ k (hFF k o hk).2.1).trans (hFF k o hk).1, (hFF k o hk).2⟩⟩
    · simp [World.setCell, Array.getElem?_modify, hb2]
    · refine ownF_stay (w := w2) ?_ fun y hy => Below.heap_setCell w2 _ _ y (fun e => hne' (by rw [hy, e]))
      rw [← hcs, List.length_append, Lib.strCells_length, hsz]
      exact hown'
  have HW : Hid (Below B w (w2.setCell ⟨b, 2, none⟩ v')) := (hb1.grown hgrow (by omega) (fun k hk => (hown.lt k hk).1)).setCell (p := ⟨b, 2, none⟩) hB _
  subst hv'
  clear hcs hown hown' hbk hb2 hne hgrow hne' hb1 hF hFF hwh
  go_wp2
  go_ret2
  exact ⟨rfl, HB.out, HW.out⟩
end Go.Proofs.YtgmmlblefealjaaDoor
