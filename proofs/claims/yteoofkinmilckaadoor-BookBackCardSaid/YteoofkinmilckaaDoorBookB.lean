/- A book in memory: its text, its builder (at the second cell) and how many lines; strings.Builder's methods at that builder. -/
import Derived.Test.YteoofkinmilckaaDoorWords
import Derived.Test.YteoofkinmilckaaDoorShelf
import Derived.Lib.Builder
import Derived.Lib.FrozenHead
import Derived.Lib.FrozenHead2
import Derived.Lib.AppendStr
import Derived.Lib.Strings
import Derived.Lib.UnsafeStr
import Derived.Lib.SmallJoins
import Derived.Lib.ItoaLen
import Derived.Laws.Externs
import Derived.Shelf.RegionOpen
import Derived.Test.YteoofkinmilckaaDoorAs
namespace Go.Proofs.YteoofkinmilckaaDoor
open Go.RowKit

abbrev S (l : List UInt8) : Value := .string ⟨l.toArray⟩
theorem bk_lies : liesAt Tryd.prog Tryd.prog.depth 66 (4 / Tryd.prog.cellsOf 66) 1 60 1 = true := by kernel_rfl
theorem bld_size : (Tryd.prog.info? 60).map (·.size) = some 2 := by kernel_rfl
theorem info_byte : (Tryd.prog.info? 5).map (fun i => (i.zero, i.size, i.bytes)) = some (some (.int .u8 0), 1, 1) := by kernel_rfl
theorem cells_byte : Tryd.prog.cellsOf 5 = 1 := by kernel_rfl

/-- The book in block b. -/
def BkAt (B b : Nat) (p : Value) (now txt : List UInt8) (many : Nat) (w : World) : Prop :=
  B ≤ b ∧ ∃ v, w.heap[b]? = some (.cells #[S now, p, v, .int .i64 (many : Int)] 66 (0, 0)) ∧ w.ownsRowF B 5 1 v (Lib.byteCells txt).length (Lib.byteCells txt) ∧ v.ownBlock ≠ some b
def Bk (B b : Nat) (now txt : List UInt8) (many : Nat) (w : World) : Prop := ∃ p, (p = .pointer none ∨ p = .pointer (some ⟨b, 1, none⟩)) ∧ BkAt B b p now txt many w
section
variable {B b many : Nat} {p : Value} {now txt : List UInt8} {w w' : World}
theorem BkAt.lt (h : BkAt B b p now txt many w) : b < w.heap.size := by
  obtain ⟨_, v, hb, _⟩ := h
  exact (Array.getElem?_eq_some_iff.1 hb).1
theorem BkAt.cells (h : BkAt B b p now txt many w) : w.cell? ⟨b, 0, none⟩ = some (S now) ∧ w.cell? ⟨b, 1, none⟩ = some p ∧ w.cell? ⟨b, 3, none⟩ = some (.int .i64 (many : Int)) ∧ w.frozen? ⟨b, 0, none⟩ = false ∧ w.frozen? ⟨b, 1, none⟩ = false ∧ w.frozen? ⟨b, 3, none⟩ = false := by
  obtain ⟨_, v, hb, _⟩ := h
  exact ⟨by rw [Lib.cell_of_heap hb]; rfl, by rw [Lib.cell_of_heap hb]; rfl, by rw [Lib.cell_of_heap hb]; rfl, Lib.frozen_of_heap hb 0, Lib.frozen_of_heap hb 1, Lib.frozen_of_heap hb 3⟩
theorem ownF_stay {B e size n : Nat} {v : Value} {xs : List Value} (h : w.ownsRowF B e size v n xs) (hs : ∀ y, v.ownBlock = some y → w'.heap[y]? = w.heap[y]?) : w'.ownsRowF B e size v n xs := by
  refine ⟨h.1, ?_⟩
  rcases h.2 with h2 | ⟨g, cap, cur, fz, rfl, hg, hh, r⟩
  · exact .inl h2
  · exact .inr ⟨g, cap, cur, fz, rfl, hg, (hs g rfl).trans hh, r⟩
theorem BkAt.set_ (h : BkAt B b p now txt many w) (i : Nat) (u : Value) (p' : Value) (now' : List UInt8) (many' : Nat) (he : ∀ v, ([S now, p, v, .int .i64 (many : Int)] : List Value).set i u = [S now', p', v, .int .i64 (many' : Int)]) : BkAt B b p' now' txt many' (w.setCell ⟨b, i, none⟩ u) := by
  obtain ⟨hB, v, hb, hown, hne⟩ := h
  refine ⟨hB, v, ?_, ownF_stay hown fun y hy => Below.heap_setCell w _ _ y (fun e => hne (by rw [hy, e])), hne⟩
  simp [World.setCell, Array.getElem?_modify, hb]
  exact he v
theorem BkAt.below (h : BkAt B b p now txt many w) (hb : Below w.heap.size w w') : BkAt B b p now txt many w' := by
  have hl := h.lt
  obtain ⟨hB, v, hbk, hown, hne⟩ := h
  exact ⟨hB, v, (hb.block b hl).trans hbk, ownF_stay hown fun y hy => hb.block y (hown.lt y hy).2, hne⟩
theorem Bk.below (h : Bk B b now txt many w) (hb : Below w.heap.size w w') : Bk B b now txt many w' := by
  obtain ⟨p, hp, h⟩ := h
  exact ⟨p, hp, h.below hb⟩
theorem Bk.lt (h : Bk B b now txt many w) : b < w.heap.size := by obtain ⟨p, hp, h⟩ := h; exact h.lt
theorem Bk.le (h : Bk B b now txt many w) : B ≤ b := by obtain ⟨p, hp, h⟩ := h; exact h.1
end

set_option maxHeartbeats 1000000 in
set_option maxRecDepth 100000 in
theorem bkCheck (B b : Nat) (now txt : List UInt8) (many : Nat) (w : World) (h : Bk B b now txt many w) :
    Calls Tryd.prog 50 #[.pointer (some ⟨b, 1, none⟩)] w fun e w' => e = .returned (.tuple #[]) ∧ BkAt B b (.pointer (some ⟨b, 1, none⟩)) now txt many w' ∧ Below B w w' ∧ w'.heap.size = w.heap.size := by
  obtain ⟨p, hp, h⟩ := h
  obtain ⟨c0, c1, c3, f0, f1, f3⟩ := h.cells
  obtain ⟨j, hj, hjs⟩ := Option.map_eq_some_iff.1 bld_size
  have hsh : w.shape? b = some (66, 4) := by
    obtain ⟨_, v, hb, _⟩ := h
    simp [World.shape?, hb]
  rcases hp with rfl | rfl
  · have hto := Lib.run_to_unsafe (P := Tryd.prog) w ⟨b, 1, none⟩ Tryd.underlying57 Tryd.underlying91 hj (by rw [hjs]; decide) hsh (by show 1 < 4; decide)
    have hfrom := Lib.run_from_unsafe (P := Tryd.prog) w ⟨b, 1, none⟩ Tryd.underlying91 Tryd.underlying57 hj hsh bk_lies
    have hne := @run_callFunc_extern Tryd.prog 63 _ Extern.AbiNoEscape.same Tryd.func63 (by kernel_rfl) (by kernel_rfl) (by kernel_rfl) (by kernel_rfl)
    have hno := Lib.run_noEscape (P := Tryd.prog) w (.pointer (some ⟨b, 1, none⟩))
    have hfin := h.set_ 1 (.pointer (some ⟨b, 1, none⟩)) (.pointer (some ⟨b, 1, none⟩)) now many (fun v => rfl)
    have HF := Lib.hid hfin
    have HB := Lib.hid ((Below.refl B w).setCell (p := ⟨b, 1, none⟩) h.1 (.pointer (some ⟨b, 1, none⟩)))
    have hn2 := fun W => Lib.run_neq_ptr_same (P := Tryd.prog) W ⟨b, 1, none⟩ Tryd.underlying57 hj
    clear hfin h
    go_enter Tryd.func50, Tryd.ntmps50
    go_wp2
    go_end0
    exact ⟨rfl, HF.out, HB.out, by simp [World.setCell]⟩
  · have hn2 := Lib.run_neq_ptr_same (P := Tryd.prog) w ⟨b, 1, none⟩ Tryd.underlying57 hj
    have HF := Lib.hid h
    clear h
    go_enter Tryd.func50, Tryd.ntmps50
    go_wp2
    go_end0
    exact ⟨rfl, HF.out, Below.refl B _, rfl⟩

set_option maxHeartbeats 1000000 in
set_option maxRecDepth 100000 in
theorem bkWrite (B b : Nat) (now txt s : List UInt8) (many : Nat) (w : World) (h : Bk B b now txt many w) (hlen : txt.length + s.length ≤ 1000000) :
    Calls Tryd.prog 52 #[.pointer (some ⟨b, 1, none⟩), S s] w fun e w' => e = .returned (.tuple #[.int .i64 s.length, .nilIface]) ∧ Bk B b now (txt ++ s) many w' ∧ Below B w w' := by
  obtain ⟨i0, hi, hz0, hz1, hz2⟩ := info_parts info_byte
  have hBb := h.le
  have hlt0 := h.lt
  go_enter Tryd.func52, Tryd.ntmps52
  go_wp2_with fail
  refine (bkCheck B b now txt many w h).mono ?_
  rintro e w1 ⟨rfl, ⟨hB, v, hbk, hown, hne⟩, hb1, hz⟩
  have hlt : b < w1.heap.size := (Array.getElem?_eq_some_iff.1 hbk).1
  have c2 : w1.cell? ⟨b, 2, none⟩ = some v := by rw [Lib.cell_of_heap hbk]; rfl
  have HZ := Lib.hid hz
  clear hz h
  go_wp2_with (at_builtin; refine Lib.wpList_append_own_stringF _ rfl _ _ 58 9 rfl B 5 i0 Tryd.underlying58 Tryd.underlying9 hi hz0 hz1 hz2 _ _ _ rfl hown ⟨s.toArray⟩ rfl ?c3 ?c4 ?c5 ?_)
  case c3 => simp only [maxLen, Lib.byteCells_length, ByteArray.size, List.size_toArray]; omega
  case c4 => simp only [Lib.byteCells_length, ByteArray.size, List.size_toArray]; omega
  case c5 => omega
  intro v' w2 hown' hgrow _
  have hb2 : w2.heap[b]? = some (.cells #[S now, .pointer (some ⟨b, 1, none⟩), v, .int .i64 (many : Int)] 66 (0, 0)) := by
    rw [hgrow.block b hlt (fun e => hne e.symm)]
    exact hbk
  have d2 : w2.cell? ⟨b, 2, none⟩ = some v := by rw [Lib.cell_of_heap hb2]; rfl
  have f2 : w2.frozen? ⟨b, 2, none⟩ = false := Lib.frozen_of_heap hb2 2
  have hsz : (ByteArray.mk s.toArray).size = s.length := by simp [ByteArray.size]
  obtain ⟨ao, n', cap, hv'⟩ : ∃ ao n' cap, v' = .slice ao n' cap := by
    rcases hown'.2 with ⟨hv, _⟩ | ⟨g, cap, cur, fz, hv, _⟩
    · exact ⟨_, _, _, hv⟩
    · exact ⟨_, _, _, hv⟩
  have hcs : Lib.byteCells txt ++ Lib.strCells ⟨s.toArray⟩ = Lib.byteCells (txt ++ s) := by simp [Lib.byteCells, Lib.strCells]
  have hne' : v'.ownBlock ≠ some b := Lib.ownBlock_neF hown' hb2 (by decide)
  have HB : Hid (Bk B b now (txt ++ s) many (w2.setCell ⟨b, 2, none⟩ v')) := by
    refine ⟨_, .inr rfl, hB, v', ?_, ?_, hne'⟩
    · simp [World.setCell, Array.getElem?_modify, hb2]
    · refine ownF_stay (w := w2) ?_ fun y hy => Below.heap_setCell w2 _ _ y (fun e => hne' (by rw [hy, e]))
      rw [← hcs, List.length_append, Lib.strCells_length, hsz]
      exact hown'
  have HW : Hid (Below B w (w2.setCell ⟨b, 2, none⟩ v')) := (hb1.grown hgrow (by omega) (fun k hk => (hown.lt k hk).1)).setCell (p := ⟨b, 2, none⟩) hB _
  subst hv'
  clear hcs hown hown' hbk hb2 hne hgrow hne' hb1
  go_wp2
  go_ret2
  exact ⟨rfl, HB.out, HW.out⟩
end Go.Proofs.YteoofkinmilckaaDoor
