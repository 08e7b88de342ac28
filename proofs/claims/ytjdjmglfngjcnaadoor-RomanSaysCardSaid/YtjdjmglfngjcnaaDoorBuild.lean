/- strings.Builder's methods by contract, at a builder that the call itself has made: copyCheck, WriteString, WriteByte. Condition: what is held stays below 1000000 bytes. -/
import Derived.Test.YtjdjmglfngjcnaaDoorWords
import Derived.Lib.Builder
import Derived.Lib.AppendStr
import Derived.Lib.Strings
import Derived.Laws.Externs
namespace Go.Proofs.YtjdjmglfngjcnaaDoor
open Go.RowKit

theorem bld_size : (Tryd.prog.info? 41).map (·.size) = some 2 := by kernel_rfl
theorem bld_lies : liesAt Tryd.prog Tryd.prog.depth 41 (2 / Tryd.prog.cellsOf 41) 0 41 1 = true := by kernel_rfl
theorem info_byte : (Tryd.prog.info? 5).map (fun i => (i.zero, i.size, i.bytes)) = some (some (.int .u8 0), 1, 1) := by kernel_rfl

/-- Blocks that are neither a builder nor a row of bytes stay. -/
def Keeps (w w' : World) : Prop := ∀ (g : Nat) (cs : Array Value) (t : TypeId) (fr : Nat × Nat), w.heap[g]? = some (Obj.cells cs t fr) → t ≠ 41 → t ≠ 5 → w'.heap[g]? = some (Obj.cells cs t fr)
theorem Keeps.refl (w : World) : Keeps w w := fun _ _ _ _ h _ _ => h
theorem Keeps.trans {a b c : World} (h : Keeps a b) (h' : Keeps b c) : Keeps a c := fun g cs t fr hg h1 h2 => h' g cs t fr (h g cs t fr hg h1 h2) h1 h2
theorem own_type {w : World} {base e size n : Nat} {v : Value} {xs : List Value} (h : w.ownsRow base e size v n xs) {k : Nat} (hk : v.ownBlock = some k) : ∃ cs fr, w.heap[k]? = some (.cells cs e fr) := by
  rcases h.2 with ⟨rfl, _⟩ | ⟨g, cap, cur, rfl, _, hg, _⟩
  · cases hk
  · obtain rfl : g = k := by injection hk
    exact ⟨_, _, hg⟩
theorem Keeps.set_ {w : World} {b i : Nat} {u : Value} {n : Nat} (hsh : w.shape? b = some (41, n)) : Keeps w (w.setCell ⟨b, i, none⟩ u) := by
  intro g cs t fr hg h1 _
  have hne : g ≠ b := by
    rintro rfl
    simp [World.shape?, hg] at hsh
    exact h1 hsh.1
  rw [Below.heap_setCell w ⟨b, i, none⟩ u g hne]; exact hg

set_option maxHeartbeats 1000000 in
set_option maxRecDepth 100000 in
theorem copyCheck_used (b : Nat) (w : World) (h0 : w.cell? ⟨b, 0, none⟩ = some (.pointer (some ⟨b, 0, none⟩))) :
    Calls Tryd.prog 22 #[.pointer (some ⟨b, 0, none⟩)] w fun e w' => e = .returned (.tuple #[]) ∧ w = w' := by
  obtain ⟨j, hj, _⟩ := Option.map_eq_some_iff.1 bld_size
  have hne := Lib.run_neq_ptr_same (P := Tryd.prog) w ⟨b, 0, none⟩ Tryd.underlying38 hj
  go_enter Tryd.func22, Tryd.ntmps22
  go_wp2
  go_end0
  exact ⟨rfl, rfl⟩
set_option maxHeartbeats 1000000 in
set_option maxRecDepth 100000 in
theorem copyCheck_fresh (b : Nat) (w : World) (h0 : w.cell? ⟨b, 0, none⟩ = some (.pointer none)) (hsh : w.shape? b = some (41, 2)) (hfz : w.frozen? ⟨b, 0, none⟩ = false) :
    Calls Tryd.prog 22 #[.pointer (some ⟨b, 0, none⟩)] w fun e w' => e = .returned (.tuple #[]) ∧ w.setCell ⟨b, 0, none⟩ (.pointer (some ⟨b, 0, none⟩)) = w' := by
  obtain ⟨j, hj, hjs⟩ := Option.map_eq_some_iff.1 bld_size
  have hto := Lib.run_to_unsafe (P := Tryd.prog) w ⟨b, 0, none⟩ Tryd.underlying38 Tryd.underlying53 hj (by rw [hjs]; decide) hsh (Nat.zero_lt_succ 1)
  have hfrom := Lib.run_from_unsafe (P := Tryd.prog) w ⟨b, 0, none⟩ Tryd.underlying53 Tryd.underlying38 hj hsh bld_lies
  have hne := @run_callFunc_extern Tryd.prog 25 _ Extern.AbiNoEscape.same Tryd.func25 (by kernel_rfl) (by kernel_rfl) (by kernel_rfl) (by kernel_rfl)
  have hno := Lib.run_noEscape (P := Tryd.prog) w (.pointer (some ⟨b, 0, none⟩))
  go_enter Tryd.func22, Tryd.ntmps22
  go_wp2
  go_end0
  exact ⟨rfl, rfl⟩
theorem copyCheck_any (B b : Nat) (bs : List Value) (w : World) (h : Lib.IsBuilder 41 5 B b bs w) :
    Calls Tryd.prog 22 #[.pointer (some ⟨b, 0, none⟩)] w fun e w' => e = .returned (.tuple #[]) ∧ Lib.BuilderAt 41 5 B b (.pointer (some ⟨b, 0, none⟩)) bs w' ∧ Below B w w' ∧ Keeps w w' := by
  rcases h with h | h
  · refine (copyCheck_fresh b w h.cell0 h.shape h.frozen0).mono ?_
    rintro e w' ⟨rfl, rfl⟩
    exact ⟨rfl, h.used _, (Below.refl B w).setCell (p := ⟨b, 0, none⟩) h.1 _, Keeps.set_ h.shape⟩
  · refine (copyCheck_used b w h.cell0).mono ?_
    rintro e w' ⟨rfl, rfl⟩
    exact ⟨rfl, h, Below.refl B _, Keeps.refl _⟩
set_option maxHeartbeats 1000000 in
set_option maxRecDepth 100000 in
theorem writeString_any (B b : Nat) (l s : List UInt8) (w : World) (h : Lib.IsBuilder 41 5 B b (Lib.byteCells l) w) (hlen : l.length + s.length ≤ 1000000) (hBw : B ≤ w.heap.size) :
    Calls Tryd.prog 15 #[.pointer (some ⟨b, 0, none⟩), .string ⟨s.toArray⟩] w fun e w' => e = .returned (.tuple #[.int .i64 s.length, .nilIface]) ∧ Lib.IsBuilder 41 5 B b (Lib.byteCells (l ++ s)) w' ∧ Below B w w' ∧ Keeps w w' := by
  obtain ⟨i0, hi, hz0, hz1, hz2⟩ := info_parts info_byte
  go_enter Tryd.func15, Tryd.ntmps15
  go_wp2_with fail
  refine (copyCheck_any B b _ w h).mono ?_
  rintro e w1 ⟨rfl, ⟨hB, v, hbk, hown, hne⟩, hb1, hkp1⟩
  have hwn := hown
  have hlt : b < w1.heap.size := Lib.BuilderAt.lt ⟨hB, v, hbk, hown, hne⟩
  have c0 : w1.cell? ⟨b, 0, none⟩ = some (.pointer (some ⟨b, 0, none⟩)) := by rw [Lib.cell_of_heap hbk]; rfl
  have c1 : w1.cell? ⟨b, 1, none⟩ = some v := by rw [Lib.cell_of_heap hbk]; rfl
  go_wp2_with (at_builtin; refine Lib.wpList_append_own_string _ rfl _ _ 39 9 rfl B 5 i0 Tryd.underlying39 Tryd.underlying9 hi hz0 hz1 hz2 _ _ _ rfl hown ⟨s.toArray⟩ rfl ?c3 ?c4 ?c5 ?_)
  case c3 => simp only [maxLen, Lib.byteCells_length, ByteArray.size, List.size_toArray]; omega
  case c4 => simp only [Lib.byteCells_length, ByteArray.size, List.size_toArray]; omega
  case c5 => have := hb1.size; omega
  intro v' w2 hown' hgrow _
  have hb2 : w2.heap[b]? = some (.cells #[.pointer (some ⟨b, 0, none⟩), v] 41 (0, 0)) := by
    rw [hgrow.block b hlt (fun e => hne e.symm)]
    exact hbk
  have d0 : w2.cell? ⟨b, 0, none⟩ = some (.pointer (some ⟨b, 0, none⟩)) := by rw [Lib.cell_of_heap hb2]; rfl
  have d1 : w2.cell? ⟨b, 1, none⟩ = some v := by rw [Lib.cell_of_heap hb2]; rfl
  have f1 : w2.frozen? ⟨b, 1, none⟩ = false := Lib.frozen_of_heap hb2 1
  have hsz : (ByteArray.mk s.toArray).size = s.length := by simp [ByteArray.size]
  obtain ⟨ao, cap, rfl, _⟩ := own_shape hown'
  have hcs : Lib.byteCells l ++ Lib.strCells ⟨s.toArray⟩ = Lib.byteCells (l ++ s) := by simp [Lib.byteCells, Lib.strCells]
  have HB : Hid (Lib.IsBuilder 41 5 B b (Lib.byteCells (l ++ s)) (w2.setCell ⟨b, 1, none⟩ (.slice ao ((Lib.byteCells l).length + s.length) cap))) :=
    .inr (Lib.BuilderAt.put (T := 41) (e := 5) hB hb2 (bs' := Lib.byteCells (l ++ s)) (by rw [← hcs, List.length_append, Lib.strCells_length, hsz]; exact hown') (by decide))
  have HW : Hid (Below B w (w2.setCell ⟨b, 1, none⟩ (.slice ao ((Lib.byteCells l).length + s.length) cap))) :=
    (hb1.grown hgrow (by have := hb1.size; omega) (fun k hk => (hown.lt k hk).1)).setCell (p := ⟨b, 1, none⟩) hB _
  have HKP : Hid (Keeps w (w2.setCell ⟨b, 1, none⟩ (.slice ao ((Lib.byteCells l).length + s.length) cap))) := by
    refine hkp1.trans (Keeps.trans (b := w2) ?_ (Keeps.set_ (n := 2) (by simp [World.shape?, hb2])))
    intro g cs t fr hg _ h2
    have hlg : g < w1.heap.size := (Array.getElem?_eq_some_iff.1 hg).1
    rw [hgrow.block g hlg (fun e => by
      obtain ⟨cs', fr', h'⟩ := own_type hwn e.symm
      rw [hg] at h'; injection h' with h'; injection h' with _ h' _; exact h2 h')]
    exact hg
  clear hcs hown hown' hbk hb2 hne hgrow hkp1 hwn
  go_wp2
  go_ret2
  exact ⟨rfl, HB.out, HW.out, HKP.out⟩
end Go.Proofs.YtjdjmglfngjcnaaDoor
