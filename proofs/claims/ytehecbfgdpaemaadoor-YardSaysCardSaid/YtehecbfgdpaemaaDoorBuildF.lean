/- strings.Builder's WriteByte by contract, with its frame: only the builder's block and its buffer may turn. Condition: what is held stays below 1000000 bytes. -/
import Derived.Test.YtehecbfgdpaemaaDoorBuild
import Derived.Maps.AppendAt
namespace Go.Proofs.YtehecbfgdpaemaaDoor
open Go.RowKit
/-- A builder of the call's own; G: where its buffer lies. -/
def Bld (B b : Nat) (G : Option Nat) (l : List UInt8) (w : World) : Prop :=
  B ≤ b ∧ ∃ p v, w.heap[b]? = some (.cells #[p, v] 45 (0, 0)) ∧ (p = .pointer none ∨ p = .pointer (some ⟨b, 0, none⟩)) ∧ w.ownsRow B 5 1 v (Lib.byteCells l).length (Lib.byteCells l) ∧ v.ownBlock = G ∧ G ≠ some b
theorem Bld.isb {B b : Nat} {G : Option Nat} {l : List UInt8} {w : World} (h : Bld B b G l w) : Lib.IsBuilder 45 5 B b (Lib.byteCells l) w := by
  obtain ⟨hB, p, v, hb, hp, hown, hG, hne⟩ := h
  rcases hp with rfl | rfl
  · exact .inl ⟨hB, v, hb, hown, by rw [hG]; exact hne⟩
  · exact .inr ⟨hB, v, hb, hown, by rw [hG]; exact hne⟩
theorem Bld.lt {B b : Nat} {G : Option Nat} {l : List UInt8} {w : World} (h : Bld B b G l w) : b < w.heap.size := by
  obtain ⟨hB, p, v, hb, _⟩ := h
  exact (Array.getElem?_eq_some_iff.1 hb).1
theorem Bld.glt {B b : Nat} {G : Option Nat} {l : List UInt8} {w : World} (h : Bld B b G l w) {x : Nat} (hx : G = some x) : x < w.heap.size ∧ B ≤ x := by
  obtain ⟨hB, p, v, hb, hp, hown, hG, hne⟩ := h
  rw [hx] at hG
  have := hown.lt x hG
  exact ⟨this.2, this.1⟩
/-- Only b and G may have turned. -/
structure Fr (b : Nat) (G : Option Nat) (w w' : World) : Prop where
  os : w'.os = w.os
  tape : w'.tape = w.tape
  output : w'.output = w.output
  size : w.heap.size ≤ w'.heap.size
  block : ∀ k, k < w.heap.size → k ≠ b → some k ≠ G → w'.heap[k]? = w.heap[k]?
theorem Fr.below {B b : Nat} {G : Option Nat} {w w' : World} (h : Fr b G w w') (hB : B ≤ w.heap.size) (hb : B ≤ b) (hG : ∀ x, G = some x → B ≤ x) : Below B w w' :=
  ⟨h.os, h.tape, h.output, h.size, fun k hk => h.block k (by omega) (by omega) (fun e => by have := hG k e.symm; omega)⟩
/-- The builder stays, where neither its block nor its buffer turns. -/
theorem Bld.stay {B b : Nat} {G : Option Nat} {l : List UInt8} {w w' : World} (h : Bld B b G l w) (hb : w'.heap[b]? = w.heap[b]?) (hg : ∀ x, G = some x → w'.heap[x]? = w.heap[x]?) : Bld B b G l w' := by
  obtain ⟨hB, p, v, hbk, hp, hown, hG, hne⟩ := h
  refine ⟨hB, p, v, hb.trans hbk, hp, ⟨hown.1, ?_⟩, hG, hne⟩
  rcases hown.2 with h2 | ⟨g, cap, cur, rfl, hg', hh, r⟩
  · exact .inl h2
  · exact .inr ⟨g, cap, cur, rfl, hg', (hg g (by rw [← hG]; rfl)).trans hh, r⟩

set_option maxHeartbeats 1000000 in
set_option maxRecDepth 100000 in
theorem writeByte_fr (B b : Nat) (G : Option Nat) (l : List UInt8) (c : UInt8) (w : World) (h : Bld B b G l w) (hlen : l.length ≤ 900000) (hBw : B ≤ w.heap.size) :
    Calls Tryd.prog 23 #[.pointer (some ⟨b, 0, none⟩), .int .u8 (c.toNat : Int)] w fun e w' => e = .returned .nilIface ∧ ∃ G', Bld B b G' (l ++ [c]) w' ∧ Fr b G w w' ∧ (G' = G ∨ ∃ x, G' = some x ∧ w.heap.size ≤ x) := by
  obtain ⟨i0, hi, hz0, hz1, hz2⟩ := info_parts info_byte
  have hlt := h.lt
  have hgl := fun x => h.glt (x := x)
  have hck : Calls Tryd.prog 31 #[.pointer (some ⟨b, 0, none⟩)] w fun e w' => e = .returned (.tuple #[]) ∧ Bld B b G l w' ∧ Fr b G w w' ∧ w'.cell? ⟨b, 0, none⟩ = some (.pointer (some ⟨b, 0, none⟩)) ∧ w'.heap.size = w.heap.size := by
    obtain ⟨hB, p, v, hb, hp, hown, hG, hne⟩ := h
    rcases hp with rfl | rfl
    · refine (copyCheck_fresh b w (by rw [Lib.cell_of_heap hb]; rfl) (by simp [World.shape?, hb]) (Lib.frozen_of_heap hb 0)).mono ?_
      rintro e w' ⟨rfl, rfl⟩
      have hb' : (w.setCell ⟨b, 0, none⟩ (.pointer (some ⟨b, 0, none⟩))).heap[b]? = some (.cells #[.pointer (some ⟨b, 0, none⟩), v] 45 (0, 0)) := by simp [World.setCell, Array.getElem?_modify, hb]
      refine ⟨rfl, ⟨hB, _, v, hb', .inr rfl, ownsRow_setCell_other hown (by rw [hG]; exact hne) _, hG, hne⟩, ⟨rfl, rfl, rfl, by simp [World.setCell], fun k _ hk _ => Below.heap_setCell w _ _ k hk⟩, by rw [Lib.cell_of_heap hb']; rfl, by simp [World.setCell]⟩
    · refine (copyCheck_used b w (by rw [Lib.cell_of_heap hb]; rfl)).mono ?_
      rintro e w' ⟨rfl, rfl⟩
      exact ⟨rfl, ⟨hB, _, v, hb, .inr rfl, hown, hG, hne⟩, ⟨rfl, rfl, rfl, Nat.le_refl _, fun _ _ _ _ => rfl⟩, by rw [Lib.cell_of_heap hb]; rfl, rfl⟩
  have HCK := Lib.hid hck; clear hck h
  go_enter Tryd.func23, Tryd.ntmps23
  go_wp2_with fail
  refine HCK.out.mono ?_
  rintro e w1 ⟨rfl, ⟨hB, p, v, hbk, hp, hown, hG, hne⟩, hfr, c0, hz⟩
  have hlt1 : b < w1.heap.size := by omega
  obtain rfl : p = .pointer (some ⟨b, 0, none⟩) := by
    rw [Lib.cell_of_heap hbk] at c0
    simpa using c0
  have c1 : w1.cell? ⟨b, 1, none⟩ = some v := by rw [Lib.cell_of_heap hbk]; rfl
  have HFR := Lib.hid hfr
  have HZ := Lib.hid hz
  clear hfr HCK hp hz
  go_wp2_with (at_builtin; refine wpList_append_own_at _ rfl _ _ 43 rfl B 5 i0 (.int .u8 0) 1 1 Tryd.underlying43 hi hz0 hz1 hz2 rfl (by decide) _ _ _ rfl (hown.alloc _) ⟨w1.heap.size, 0, none⟩ 1 1 [.int .u8 (c.toNat : Int)] rfl rfl ?c1 ?c2 ?c3 ?c4 ?c5 ?_)
  case c1 =>
    intro j u' hj
    match j, hj with
    | 0, hj =>
      have : (Value.int .u8 (c.toNat : Int)) = u' := by simpa using hj
      subst this
      simp [Addr.add, World.cell?_alloc_new]
  case c2 => intro u' hu'; simp at hu'; subst hu'; rfl
  case c3 => simp only [maxLen, Lib.byteCells_length]; omega
  case c4 => simp only [Lib.byteCells_length]; omega
  case c5 => have := HZ.out; simp; omega
  intro v' w2 hown' hgrow _ hat
  have hz := HZ.out
  have hlt' : b < (w1.alloc (.cells #[.int .u8 (c.toNat : Int)] 5)).heap.size := by simp; omega
  have hb2 : w2.heap[b]? = some (.cells #[.pointer (some ⟨b, 0, none⟩), v] 45 (0, 0)) := by
    rw [hgrow.block b hlt' (fun e => hne e.symm), Below.heap_alloc w1 _ b hlt1]
    exact hbk
  have d1 : w2.cell? ⟨b, 1, none⟩ = some v := by rw [Lib.cell_of_heap hb2]; rfl
  have f1 : w2.frozen? ⟨b, 1, none⟩ = false := Lib.frozen_of_heap hb2 1
  have d0 : w2.cell? ⟨b, 0, none⟩ = some (.pointer (some ⟨b, 0, none⟩)) := by rw [Lib.cell_of_heap hb2]; rfl
  obtain ⟨ao, cap, rfl, _⟩ := own_shape hown'
  have hcs : Lib.byteCells l ++ [.int .u8 (c.toNat : Int)] = Lib.byteCells (l ++ [c]) := by simp [Lib.byteCells]
  have hsz : (w1.alloc (.cells #[.int .u8 (c.toNat : Int)] 5)).heap.size = w1.heap.size + 1 := by simp
  have hfin : ∃ G', Bld B b G' (l ++ [c]) (w2.setCell ⟨b, 1, none⟩ (.slice ao ((Lib.byteCells l).length + 1) cap)) ∧ Fr b G w (w2.setCell ⟨b, 1, none⟩ (.slice ao ((Lib.byteCells l).length + 1) cap)) ∧ (G' = G ∨ ∃ x, G' = some x ∧ w.heap.size ≤ x) := by
    have hGn : (Value.slice ao ((Lib.byteCells l).length + 1) cap).ownBlock ≠ some b := by
      rcases hat with e | e
      · rw [e]; exact hne
      · rw [e]; intro e; injection e with e; omega
    refine ⟨(Value.slice ao ((Lib.byteCells l).length + 1) cap).ownBlock, ⟨hB, .pointer (some ⟨b, 0, none⟩), .slice ao ((Lib.byteCells l).length + 1) cap, ?_, .inr rfl, ?_, rfl, hGn⟩, ⟨?_, ?_, ?_, ?_, ?_⟩, ?_⟩
    · simp [World.setCell, Array.getElem?_modify, hb2]
    · rw [← hcs, List.length_append]
      exact ownsRow_setCell_other hown' hGn _
    · exact hgrow.os.trans HFR.out.os
    · exact hgrow.tape.trans HFR.out.tape
    · exact hgrow.output.trans HFR.out.output
    · have := hgrow.size; simp [World.setCell]; omega
    · intro k hk hkb hkG
      rw [Below.heap_setCell w2 _ _ k hkb, hgrow.block k (by omega) hkG, Below.heap_alloc w1 _ k (by omega)]
      exact HFR.out.block k hk hkb hkG
    · rcases hat with e | e
      · left; exact e
      · right; exact ⟨_, e, by omega⟩
  have HFIN := Lib.hid hfin
  clear hfin hz hsz hcs hown hown' hbk hb2 hgrow hat hne hG hgl
  go_wp2
  go_ret
  exact ⟨rfl, HFIN.out⟩
end Go.Proofs.YtehecbfgdpaemaaDoor
