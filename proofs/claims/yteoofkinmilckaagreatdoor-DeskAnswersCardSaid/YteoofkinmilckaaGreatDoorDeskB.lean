/- strings.Builder's WriteByte, WriteString, String at a builder that the call itself has made: only its block and its buffer turn. Condition: what is held stays below 1000000 bytes. -/
import Derived.Test.YteoofkinmilckaaGreatDoorBookE
import Derived.Maps.AppendAt
namespace Go.Proofs.YteoofkinmilckaaGreatDoor
open Go.RowKit

theorem bld_lies : liesAt Tryz.prog Tryz.prog.depth 56 (2 / Tryz.prog.cellsOf 56) 0 56 1 = true := by kernel_rfl
set_option maxHeartbeats 1000000 in
set_option maxRecDepth 100000 in
theorem copyCheck_used (b : Nat) (w : World) (h0 : w.cell? ⟨b, 0, none⟩ = some (.pointer (some ⟨b, 0, none⟩))) :
    Calls Tryz.prog 53 #[.pointer (some ⟨b, 0, none⟩)] w fun e w' => e = .returned (.tuple #[]) ∧ w = w' := by
  obtain ⟨j, hj, _⟩ := Option.map_eq_some_iff.1 bld_size
  have hne := Lib.run_neq_ptr_same (P := Tryz.prog) w ⟨b, 0, none⟩ Tryz.underlying54 hj
  go_enter Tryz.func53, Tryz.ntmps53
  go_wp2
  go_end0
  exact ⟨rfl, rfl⟩
set_option maxHeartbeats 1000000 in
set_option maxRecDepth 100000 in
theorem copyCheck_fresh (b : Nat) (w : World) (h0 : w.cell? ⟨b, 0, none⟩ = some (.pointer none)) (hsh : w.shape? b = some (56, 2)) (hfz : w.frozen? ⟨b, 0, none⟩ = false) :
    Calls Tryz.prog 53 #[.pointer (some ⟨b, 0, none⟩)] w fun e w' => e = .returned (.tuple #[]) ∧ w.setCell ⟨b, 0, none⟩ (.pointer (some ⟨b, 0, none⟩)) = w' := by
  obtain ⟨j, hj, hjs⟩ := Option.map_eq_some_iff.1 bld_size
  have hto := Lib.run_to_unsafe (P := Tryz.prog) w ⟨b, 0, none⟩ Tryz.underlying54 Tryz.underlying95 hj (by rw [hjs]; decide) hsh (Nat.zero_lt_succ 1)
  have hfrom := Lib.run_from_unsafe (P := Tryz.prog) w ⟨b, 0, none⟩ Tryz.underlying95 Tryz.underlying54 hj hsh bld_lies
  have hne := @run_callFunc_extern Tryz.prog 79 _ Extern.AbiNoEscape.same Tryz.func79 (by kernel_rfl) (by kernel_rfl) (by kernel_rfl) (by kernel_rfl)
  have hno := Lib.run_noEscape (P := Tryz.prog) w (.pointer (some ⟨b, 0, none⟩))
  go_enter Tryz.func53, Tryz.ntmps53
  go_wp2
  go_end0
  exact ⟨rfl, rfl⟩
/-- A builder of the call's own; G: where its buffer lies. -/
def Bld (B b : Nat) (G : Option Nat) (l : List UInt8) (w : World) : Prop :=
  B ≤ b ∧ ∃ p v, w.heap[b]? = some (.cells #[p, v] 56 (0, 0)) ∧ (p = .pointer none ∨ p = .pointer (some ⟨b, 0, none⟩)) ∧ w.ownsRow B 5 1 v (Lib.byteCells l).length (Lib.byteCells l) ∧ v.ownBlock = G ∧ G ≠ some b
theorem Bld.isb {B b : Nat} {G : Option Nat} {l : List UInt8} {w : World} (h : Bld B b G l w) : Lib.IsBuilder 56 5 B b (Lib.byteCells l) w := by
  obtain ⟨hB, p, v, hb, hp, hown, hG, hne⟩ := h
  rcases hp with rfl | rfl
  · exact .inl ⟨hB, v, hb, hown, by rw [hG]; exact hne⟩
  · exact .inr ⟨hB, v, hb, hown, by rw [hG]; exact hne⟩
theorem Bld.lt {B b : Nat} {G : Option Nat} {l : List UInt8} {w : World} (h : Bld B b G l w) : b < w.heap.size := by
  obtain ⟨hB, p, v, hb, _⟩ := h
  exact (Array.getElem?_eq_some_iff.1 hb).1
theorem Bld.glt {B b : Nat} {G : Option Nat} {l : List UInt8} {w : World} (h : Bld B b G l w) {x : Nat} (hx : G = some x) : x < w.heap.size ∧ B ≤ x := by
  obtain ⟨hB, p, v, hb, hp, hown, hG, hne⟩ := h
  rw [hx] at hG
  have := hown.lt x hG
  exact ⟨this.2, this.1⟩
/-- Only b and G may have turned. -/
structure Fr (b : Nat) (G : Option Nat) (w w' : World) : Prop where
  os : w'.os = w.os
  tape : w'.tape = w.tape
  output : w'.output = w.output
  size : w.heap.size ≤ w'.heap.size
  block : ∀ k, k < w.heap.size → k ≠ b → some k ≠ G → w'.heap[k]? = w.heap[k]?
theorem Fr.below {B b : Nat} {G : Option Nat} {w w' : World} (h : Fr b G w w') (hB : B ≤ w.heap.size) (hb : B ≤ b) (hG : ∀ x, G = some x → B ≤ x) : Below B w w' :=
  ⟨h.os, h.tape, h.output, h.size, fun k hk => h.block k (by omega) (by omega) (fun e => by have := hG k e.symm; omega)⟩
/-- The builder stays, where neither its block nor its buffer turns. -/
theorem Bld.stay {B b : Nat} {G : Option Nat} {l : List UInt8} {w w' : World} (h : Bld B b G l w) (hb : w'.heap[b]? = w.heap[b]?) (hg : ∀ x, G = some x → w'.heap[x]? = w.heap[x]?) : Bld B b G l w' := by
  obtain ⟨hB, p, v, hbk, hp, hown, hG, hne⟩ := h
  refine ⟨hB, p, v, hb.trans hbk, hp, ⟨hown.1, ?_⟩, hG, hne⟩
  rcases hown.2 with h2 | ⟨g, cap, cur, rfl, hg', hh, r⟩
  · exact .inl h2
  · exact .inr ⟨g, cap, cur, rfl, hg', (hg g (by rw [← hG]; rfl)).trans hh, r⟩

set_option maxHeartbeats 1000000 in
set_option maxRecDepth 100000 in
theorem writeByte_fr (B b : Nat) (G : Option Nat) (l : List UInt8) (c : UInt8) (w : World) (h : Bld B b G l w) (hlen : l.length ≤ 900000) (hBw : B ≤ w.heap.size) :
    Calls Tryz.prog 34 #[.pointer (some ⟨b, 0, none⟩), .int .u8 (c.toNat : Int)] w fun e w' => e = .returned .nilIface ∧ ∃ G', Bld B b G' (l ++ [c]) w' ∧ Fr b G w w' ∧ (∀ x, G' = some x → G = some x ∨ w.heap.size ≤ x) := by
  obtain ⟨i0, hi, hz0, hz1, hz2⟩ := info_parts info_byte
  have hlt := h.lt
  have hgl := fun x => h.glt (x := x)
  have hck : Calls Tryz.prog 53 #[.pointer (some ⟨b, 0, none⟩)] w fun e w' => e = .returned (.tuple #[]) ∧ Bld B b G l w' ∧ Fr b G w w' ∧ w'.cell? ⟨b, 0, none⟩ = some (.pointer (some ⟨b, 0, none⟩)) ∧ w'.heap.size = w.heap.size := by
    obtain ⟨hB, p, v, hb, hp, hown, hG, hne⟩ := h
    rcases hp with rfl | rfl
    · refine (copyCheck_fresh b w (by rw [Lib.cell_of_heap hb]; rfl) (by simp [World.shape?, hb]) (Lib.frozen_of_heap hb 0)).mono ?_
      rintro e w' ⟨rfl, rfl⟩
      have hb' : (w.setCell ⟨b, 0, none⟩ (.pointer (some ⟨b, 0, none⟩))).heap[b]? = some (.cells #[.pointer (some ⟨b, 0, none⟩), v] 56 (0, 0)) := by simp [World.setCell, Array.getElem?_modify, hb]
      refine ⟨rfl, ⟨hB, _, v, hb', .inr rfl, ownsRow_setCell_other hown (by rw [hG]; exact hne) _, hG, hne⟩, ⟨rfl, rfl, rfl, by simp [World.setCell], fun k _ hk _ => Below.heap_setCell w _ _ k hk⟩, by rw [Lib.cell_of_heap hb']; rfl, by simp [World.setCell]⟩
    · refine (copyCheck_used b w (by rw [Lib.cell_of_heap hb]; rfl)).mono ?_
      rintro e w' ⟨rfl, rfl⟩
      exact ⟨rfl, ⟨hB, _, v, hb, .inr rfl, hown, hG, hne⟩, ⟨rfl, rfl, rfl, Nat.le_refl _, fun _ _ _ _ => rfl⟩, by rw [Lib.cell_of_heap hb]; rfl, rfl⟩
  have HCK := Lib.hid hck; clear hck h
  go_enter Tryz.func34, Tryz.ntmps34
  go_wp2_with fail
  refine HCK.out.mono ?_
  rintro e w1 ⟨rfl, ⟨hB, p, v, hbk, hp, hown, hG, hne⟩, hfr, c0, hz⟩
  have hlt1 : b < w1.heap.size := by omega
  obtain rfl : p = .pointer (some ⟨b, 0, none⟩) := by
    rw [Lib.cell_of_heap hbk] at c0
    simpa using c0
  have c1 : w1.cell? ⟨b, 1, none⟩ = some v := by rw [Lib.cell_of_heap hbk]; rfl
  have HFR := Lib.hid hfr
  have HZ := Lib.hid hz
  clear hfr HCK hp hz
  go_wp2_with (at_builtin; refine wpList_append_own_at _ rfl _ _ 38 rfl B 5 i0 (.int .u8 0) 1 1 Tryz.underlying38 hi hz0 hz1 hz2 rfl (by decide) _ _ _ rfl (hown.alloc _) ⟨w1.heap.size, 0, none⟩ 1 1 [.int .u8 (c.toNat : Int)] rfl rfl ?c1 ?c2 ?c3 ?c4 ?c5 ?_)
  case c1 =>
    intro j u' hj
    match j, hj with
    | 0, hj =>
      have : (Value.int .u8 (c.toNat : Int)) = u' := by simpa using hj
      subst this
      simp [Addr.add, World.cell?_alloc_new]
  case c2 => intro u' hu'; simp at hu'; subst hu'; rfl
  case c3 => simp only [maxLen, Lib.byteCells_length]; omega
  case c4 => simp only [Lib.byteCells_length]; omega
  case c5 => have := HZ.out; simp; omega
  intro v' w2 hown' hgrow _ hat
  have hz := HZ.out
  have hlt' : b < (w1.alloc (.cells #[.int .u8 (c.toNat : Int)] 5)).heap.size := by simp; omega
  have hb2 : w2.heap[b]? = some (.cells #[.pointer (some ⟨b, 0, none⟩), v] 56 (0, 0)) := by
    rw [hgrow.block b hlt' (fun e => hne e.symm), Below.heap_alloc w1 _ b hlt1]
    exact hbk
  have d1 : w2.cell? ⟨b, 1, none⟩ = some v := by rw [Lib.cell_of_heap hb2]; rfl
  have f1 : w2.frozen? ⟨b, 1, none⟩ = false := Lib.frozen_of_heap hb2 1
  have d0 : w2.cell? ⟨b, 0, none⟩ = some (.pointer (some ⟨b, 0, none⟩)) := by rw [Lib.cell_of_heap hb2]; rfl
  obtain ⟨ao, cap, rfl, _⟩ := own_shape hown'
  have hcs : Lib.byteCells l ++ [.int .u8 (c.toNat : Int)] = Lib.byteCells (l ++ [c]) := by simp [Lib.byteCells]
  have hsz : (w1.alloc (.cells #[.int .u8 (c.toNat : Int)] 5)).heap.size = w1.heap.size + 1 := by simp
  have hfin : ∃ G', Bld B b G' (l ++ [c]) (w2.setCell ⟨b, 1, none⟩ (.slice ao ((Lib.byteCells l).length + 1) cap)) ∧ Fr b G w (w2.setCell ⟨b, 1, none⟩ (.slice ao ((Lib.byteCells l).length + 1) cap)) ∧ (∀ x, G' = some x → G = some x ∨ w.heap.size ≤ x) := by
    have hGn : (Value.slice ao ((Lib.byteCells l).length + 1) cap).ownBlock ≠ some b := by
      rcases hat with e | e
      · rw [e]; exact hne
      · rw [e]; intro e; injection e with e; omega
    refine ⟨(Value.slice ao ((Lib.byteCells l).length + 1) cap).ownBlock, ⟨hB, .pointer (some ⟨b, 0, none⟩), .slice ao ((Lib.byteCells l).length + 1) cap, ?_, .inr rfl, ?_, rfl, hGn⟩, ⟨?_, ?_, ?_, ?_, ?_⟩, ?_⟩
    · simp [World.setCell, Array.getElem?_modify, hb2]
    · rw [← hcs, List.length_append]
      exact ownsRow_setCell_other hown' hGn _
    · exact hgrow.os.trans HFR.out.os
    · exact hgrow.tape.trans HFR.out.tape
    · exact hgrow.output.trans HFR.out.output
    · have := hgrow.size; simp [World.setCell]; omega
    · intro k hk hkb hkG
      rw [Below.heap_setCell w2 _ _ k hkb, hgrow.block k (by omega) hkG, Below.heap_alloc w1 _ k (by omega)]
      exact HFR.out.block k hk hkb hkG
    · intro x hx
      rcases hat with e | e
      · left; rw [← hx]; exact e.symm
      · right; rw [e] at hx; injection hx with hx; omega
  have HFIN := Lib.hid hfin
  clear hfin hz hsz hcs hown hown' hbk hb2 hgrow hat hne hG hgl
  go_wp2
  go_ret
  exact ⟨rfl, HFIN.out⟩
/-- append(b, s...) at the call's own bytes: where the new row lies. -/
theorem wpList_append_str_at {P : Program} {w : World} {ops : Array Oper} {rest : List Oper} {o : Oper} {a : Act} {Q : Exit → Act → World → Prop} (hgd : o.guard = none) (sl x : Operand) (t u : TypeId)
    (ho : o.op = .call { callee := .builtin .append, args := #[sl, x], argTypes := #[t, u] })
    (base : Nat) (e : TypeId) (i : TypeInfo) (ht : P.underlying t = some (.slice e)) (hu : P.underlying u = some .string) (hi : P.info? e = some i) (hz : i.zero = some (.int .u8 0))
    (hsize : i.size = 1) (hby : i.bytes = 1) (v : Value) (n : Nat) (xs : List Value) (hs : a.eval sl = v) (hown : w.ownsRow base e 1 v n xs) (s : ByteArray) (hx : a.eval x = .string s)
    (h63 : n + s.size ≤ maxLen) (hbytes : n + s.size ≤ 140737488355328) (hbase : base ≤ w.heap.size)
    (h : ∀ v' w', w'.ownsRow base e 1 v' (n + s.size) (xs ++ Lib.strCells s) → w.grownBy w' v.ownBlock → (∀ k, v'.ownBlock = some k → v.ownBlock = some k ∨ w.heap.size ≤ k) → wpList P ops Q rest (a.put o.dst v') w') : wpList P ops Q (o :: rest) a w := by
  refine wpList_plain hgd fun K hK => ?_
  obtain ⟨v', w', hr, h2, h3, h4⟩ := Lib.run_append_own_string (P := P) w base t u o.type e i ht hu hi hz hsize hby v n xs hown s h63 hbytes hbase
  have h5 := append_where (P := P) (ty := o.type) ht hu hi hz hsize hby (World.ownsRowF_of hown) h63 hbytes hr
  unfold Oper.wp execOp
  simp only [ho, resolve, invoke, builtin, Sem.run_bind, Sem.run_pure, Result.andThen_ok, List.map_toArray, List.map_cons, List.map_nil, hs, hx, hr]
  exact hK _ _ (h v' w' h2 h3 h5)

set_option maxHeartbeats 1000000 in
set_option maxRecDepth 100000 in
theorem writeString_fr (B b : Nat) (G : Option Nat) (l s : List UInt8) (w : World) (h : Bld B b G l w) (hlen : l.length + s.length ≤ 1000000) (hBw : B ≤ w.heap.size) :
    Calls Tryz.prog 31 #[.pointer (some ⟨b, 0, none⟩), S s] w fun e w' => e = .returned (.tuple #[.int .i64 s.length, .nilIface]) ∧ ∃ G', Bld B b G' (l ++ s) w' ∧ Fr b G w w' ∧ (∀ x, G' = some x → G = some x ∨ w.heap.size ≤ x) := by
  obtain ⟨i0, hi, hz0, hz1, hz2⟩ := info_parts info_byte
  have hlt := h.lt
  have hgl := fun x => h.glt (x := x)
  have hck : Calls Tryz.prog 53 #[.pointer (some ⟨b, 0, none⟩)] w fun e w' => e = .returned (.tuple #[]) ∧ Bld B b G l w' ∧ Fr b G w w' ∧ w'.cell? ⟨b, 0, none⟩ = some (.pointer (some ⟨b, 0, none⟩)) ∧ w'.heap.size = w.heap.size := by
    obtain ⟨hB, p, v, hb, hp, hown, hG, hne⟩ := h
    rcases hp with rfl | rfl
    · refine (copyCheck_fresh b w (by rw [Lib.cell_of_heap hb]; rfl) (by simp [World.shape?, hb]) (Lib.frozen_of_heap hb 0)).mono ?_
      rintro e w' ⟨rfl, rfl⟩
      have hb' : (w.setCell ⟨b, 0, none⟩ (.pointer (some ⟨b, 0, none⟩))).heap[b]? = some (.cells #[.pointer (some ⟨b, 0, none⟩), v] 56 (0, 0)) := by simp [World.setCell, Array.getElem?_modify, hb]
      refine ⟨rfl, ⟨hB, _, v, hb', .inr rfl, ownsRow_setCell_other hown (by rw [hG]; exact hne) _, hG, hne⟩, ⟨rfl, rfl, rfl, by simp [World.setCell], fun k _ hk _ => Below.heap_setCell w _ _ k hk⟩, by rw [Lib.cell_of_heap hb']; rfl, by simp [World.setCell]⟩
    · refine (copyCheck_used b w (by rw [Lib.cell_of_heap hb]; rfl)).mono ?_
      rintro e w' ⟨rfl, rfl⟩
      exact ⟨rfl, ⟨hB, _, v, hb, .inr rfl, hown, hG, hne⟩, ⟨rfl, rfl, rfl, Nat.le_refl _, fun _ _ _ _ => rfl⟩, by rw [Lib.cell_of_heap hb]; rfl, rfl⟩
  have HCK := Lib.hid hck; clear hck h
  go_enter Tryz.func31, Tryz.ntmps31
  go_wp2_with fail
  refine HCK.out.mono ?_
  rintro e w1 ⟨rfl, ⟨hB, p, v, hbk, hp, hown, hG, hne⟩, hfr, c0, hz⟩
  have hlt1 : b < w1.heap.size := by omega
  obtain rfl : p = .pointer (some ⟨b, 0, none⟩) := by
    rw [Lib.cell_of_heap hbk] at c0
    simpa using c0
  have c1 : w1.cell? ⟨b, 1, none⟩ = some v := by rw [Lib.cell_of_heap hbk]; rfl
  have HFR := Lib.hid hfr
  have HZ := Lib.hid hz
  clear hfr HCK hp hz
  go_wp2_with (at_builtin; refine wpList_append_str_at rfl _ _ 38 9 rfl B 5 i0 Tryz.underlying38 Tryz.underlying9 hi hz0 hz1 hz2 _ _ _ rfl hown ⟨s.toArray⟩ rfl ?c3 ?c4 ?c5 ?_)
  case c3 => simp only [maxLen, Lib.byteCells_length, ByteArray.size, List.size_toArray]; omega
  case c4 => simp only [Lib.byteCells_length, ByteArray.size, List.size_toArray]; omega
  case c5 => have := HZ.out; omega
  intro v' w2 hown' hgrow hat
  have hz := HZ.out
  have hb2 : w2.heap[b]? = some (.cells #[.pointer (some ⟨b, 0, none⟩), v] 56 (0, 0)) := by
    rw [hgrow.block b hlt1 (fun e => hne e.symm)]
    exact hbk
  have d1 : w2.cell? ⟨b, 1, none⟩ = some v := by rw [Lib.cell_of_heap hb2]; rfl
  have f1 : w2.frozen? ⟨b, 1, none⟩ = false := Lib.frozen_of_heap hb2 1
  have d0 : w2.cell? ⟨b, 0, none⟩ = some (.pointer (some ⟨b, 0, none⟩)) := by rw [Lib.cell_of_heap hb2]; rfl
  obtain ⟨ao, cap, rfl, _⟩ := own_shape hown'
  have hsz : (ByteArray.mk s.toArray).size = s.length := by simp [ByteArray.size]
  have hcs : Lib.byteCells l ++ Lib.strCells ⟨s.toArray⟩ = Lib.byteCells (l ++ s) := by simp [Lib.byteCells, Lib.strCells]
  have hfin : ∃ G', Bld B b G' (l ++ s) (w2.setCell ⟨b, 1, none⟩ (.slice ao ((Lib.byteCells l).length + s.length) cap)) ∧ Fr b G w (w2.setCell ⟨b, 1, none⟩ (.slice ao ((Lib.byteCells l).length + s.length) cap)) ∧ (∀ x, G' = some x → G = some x ∨ w.heap.size ≤ x) := by
    have hGn : (Value.slice ao ((Lib.byteCells l).length + s.length) cap).ownBlock ≠ some b := by
      intro e
      rcases hat b e with h | h
      · exact hne h
      · omega
    refine ⟨(Value.slice ao ((Lib.byteCells l).length + s.length) cap).ownBlock, ⟨hB, .pointer (some ⟨b, 0, none⟩), .slice ao ((Lib.byteCells l).length + s.length) cap, ?_, .inr rfl, ?_, rfl, hGn⟩, ⟨?_, ?_, ?_, ?_, ?_⟩, ?_⟩
    · simp [World.setCell, Array.getElem?_modify, hb2]
    · rw [← hcs, List.length_append, Lib.strCells_length, hsz]
      exact ownsRow_setCell_other hown' hGn _
    · exact hgrow.os.trans HFR.out.os
    · exact hgrow.tape.trans HFR.out.tape
    · exact hgrow.output.trans HFR.out.output
    · have := hgrow.size; simp [World.setCell]; omega
    · intro k hk hkb hkG
      rw [Below.heap_setCell w2 _ _ k hkb, hgrow.block k (by omega) hkG]
      exact HFR.out.block k hk hkb hkG
    · intro x hx
      rcases hat x hx with h | h
      · left; exact h
      · right; omega
  have HFIN := Lib.hid hfin
  clear hfin hz hsz hcs hown hown' hbk hb2 hgrow hat hne hG hgl
  go_wp2
  go_ret2
  exact ⟨rfl, HFIN.out⟩
end Go.Proofs.YteoofkinmilckaaGreatDoor
