/- The keys int and [2]int; maps.Clone, maps.Copy, nfa.both, at sets of ints. No condition. -/
import Derived.Test.YtchhbnnpannnhaaDoorNfA
import Derived.Laws.Externs
import Derived.MapKept
import Derived.DeepKeys4
namespace Go.Proofs.YtchhbnnpannnhaaDoor
open Go.RowKit Go.Maps
set_option linter.unusedVariables false

theorem laidOut : laidOutB Tryd.prog = true := by kernel_rfl
abbrev eI (i : Nat) : Value := .int .i64 (i : Int)
abbrev eJ (p : Nat × Nat) : Value := .agg #[.int .i64 (p.1 : Int), .int .i64 (p.2 : Int)]
def okI (i : Nat) : Prop := i < 64
def okJ (p : Nat × Nat) : Prop := p.1 < 64 ∧ p.2 < 64
theorem lawI : Keyed Tryd.prog 3 := int_keyed Tryd.underlying3
theorem rowJ : (56 : TypeId) < Tryd.prog.types.size := of_decide_eq_true (by kernel_rfl)
set_option maxRecDepth 100000 in
theorem lawJ : Keyed Tryd.prog 56 := Keyed.of_law (deep_law_laid laidOut (m := 2) (by omega) rowJ (by kernel_rfl) (by rw [Tryd.underlying56]))
theorem wfI {i : Nat} (h : i < 64) : (Lit.int .i64 (i : Int)).wf = true := WalkArith.wf_i64 (by omega)
theorem keyI : KeyE Tryd.prog 3 eI okI where
  K := lawI
  read := fun x h => ⟨_, keyOf_int_mk Tryd.underlying3 (wfI h)⟩
  one := fun x y h => by injection h with _ h; omega
  few := ⟨List.range 64, by simp, fun x h => List.mem_range.2 h⟩
theorem lits_int (d : Nat) {i : Nat} (h : i < 64) : Tryd.prog.keyLits (d + 1) 3 [.int .i64 (i : Int)] = some [.int .i64 (i : Int)] := by
  unfold Program.keyLits
  rw [Tryd.underlying3]
  simp [wfI h]
theorem lits_pair (d : Nat) (p : Nat × Nat) (h : okJ p) : Tryd.prog.keyLits (d + 2) 56 [.int .i64 (p.1 : Int), .int .i64 (p.2 : Int)] = some [.int .i64 (p.1 : Int), .int .i64 (p.2 : Int)] := by
  have c1 : Tryd.prog.cellsOf 56 = 2 := by kernel_rfl
  have c2 : Tryd.prog.cellsOf 3 = 1 := by kernel_rfl
  have h1 := lits_int d h.1
  have h2 := lits_int d h.2
  unfold Program.keyLits
  rw [Tryd.underlying56]
  simp [c1, c2, List.range_succ, h1, h2]
theorem keyJ : KeyE Tryd.prog 56 eJ okJ where
  K := lawJ
  read := fun p h => by
    have k1 : Tryd.prog.keyType 56 = true := by kernel_rfl
    have c1 : Tryd.prog.cellsOf 56 = 2 := by kernel_rfl
    have k2 : (eJ p).formed Tryd.prog 56 = true := by unfold Value.formed; rw [Tryd.underlying56]; simp [c1]
    obtain ⟨d, hd⟩ : ∃ d, Tryd.prog.types.size + 1 = d + 2 := ⟨Tryd.prog.types.size - 1, by have : 0 < Tryd.prog.types.size := Nat.lt_of_le_of_lt (Nat.zero_le _) rowJ; omega⟩
    unfold keyOf
    rw [Tryd.underlying56]
    simp only [k1, k2, Bool.and_self, if_true]
    rw [hd, show (eJ p).cells.toList = [.int .i64 (p.1 : Int), .int .i64 (p.2 : Int)] from rfl, lits_pair d p h]
    exact ⟨_, rfl⟩
  one := fun x y h => by
    have h' : (#[Value.int .i64 (x.1 : Int), .int .i64 (x.2 : Int)] : Array Value) = #[.int .i64 (y.1 : Int), .int .i64 (y.2 : Int)] := by injection h
    simp at h'
    exact Prod.ext (by omega) (by omega)
  few := ⟨(List.range 64).flatMap fun i => (List.range 64).map fun j => (i, j), by decide +kernel, fun p h => List.mem_flatMap.2 ⟨p.1, List.mem_range.2 h.1, List.mem_map.2 ⟨p.2, List.mem_range.2 h.2, rfl⟩⟩⟩
/-- Block b is a set of places; of pairs of places. -/
abbrev SI (w : World) (b : Nat) (L : List Nat) : Prop := MSet Tryd.prog 3 eI okI w b L
abbrev SJ (w : World) (b : Nat) (L : List (Nat × Nat)) : Prop := MSet Tryd.prog 56 eJ okJ w b L

section
variable {P : Program} (w : World)
theorem run_eqIn_mapN (d : Nat) (t k e : TypeId) (p : Option Nat) (h : P.underlying t = some (.map k e)) : (Op.equalIn (d + 1) t (.map p) (.map none)).run P w = .ok p.isNone w := by
  cases p <;> simp [Op.equalIn, run_underlying h]
theorem run_eql_mapN (t k e : TypeId) (p : Option Nat) (h : P.underlying t = some (.map k e)) : (binOp .eql t (.map p) (.map none)).run P w = .ok (.bool p.isNone) w := by
  simp only [binOp]
  simp [show Op.equal t (.map p) (.map none) = Op.equalIn (9999 + 1) t (.map p) (.map none) from rfl, run_eqIn_mapN w 9999 t k e p h]
theorem run_assert_map (t xT k e : TypeId) (v : Value) (h : P.underlying t = some (.map k e)) : (Instr.typeAssert (.iface t v) xT t false).run P w = .ok v w := by
  simp [Instr.typeAssert, run_underlying h, go_sem, Result.andThen]
theorem run_clone_map {r : Nat} {es : Array MapEntry} {clock : Nat} (t : TypeId) (hb : w.heap[r]? = some (.map es clock)) : (Extern.MapsClone.clone #[.iface t (.map (some r))]).run P w = .ok (.iface t (.map (some w.heap.size))) (w.alloc (.map es clock)) := by
  have e : Extern.MapsClone.clone #[.iface t (.map (some r))] = (getObj r >>= fun o => match o with
      | .map entries clock => (newObj (.map entries clock) >>= fun n => pure (.iface t (.map (some n))))
      | _ => stuck "maps.clone: a map expected") := rfl
  rw [e]
  simp [MapKept.run_getObj_map hb, Result.andThen, go_sem]
end
set_option maxRecDepth 100000 in
set_option maxHeartbeats 2000000 in
theorem clone_any (b : Nat) (L : List Nat) (w : World) (hs : SI w b L) :
    Calls Tryd.prog 42 #[.map (some b)] w fun e w' => e = .returned (.map (some w.heap.size)) ∧ SI w' w.heap.size L ∧ Below w.heap.size w w' := by
  obtain ⟨es, clock, hb, hc⟩ := hs.copied
  have hq := fun w => run_eql_mapN (P := Tryd.prog) w 51 _ _ (some b) Tryd.underlying51
  have HC := Lib.hid hc
  clear hc
  go_enter Tryd.func42, Tryd.ntmps42
  go_wp2
  rw [run_callFunc_extern Tryd.func62 (by kernel_rfl) (by kernel_rfl) (by kernel_rfl) (e := Extern.MapsClone.clone) (by kernel_rfl), run_clone_map w 51 hb]
  simp only [Result.andThen]
  rw [Oper.upon_value]
  go_wp2
  rw [run_assert_map _ 51 _ _ _ _ Tryd.underlying51]
  simp only [Result.andThen]
  rw [Oper.upon_value]
  go_wp2
  go_ret
  exact ⟨rfl, HC.out, (Below.refl _ w).alloc (Nat.le_refl _) _⟩
set_option maxRecDepth 100000 in
set_option maxHeartbeats 2000000 in
theorem copy_any (bd bs : Nat) (Ld Ls : List Nat) (w : World) (hd : SI w bd Ld) (hs : SI w bs Ls) (hne : bd ≠ bs) :
    Calls Tryd.prog 43 #[.map (some bd), .map (some bs)] w fun e w' => e = .returned (.tuple #[]) ∧ SI w' bd (Ld ++ Ls) ∧ w.grownBy w' (some bd) := by
  have hbd := hd.lt
  have hbs := hs.lt
  go_enter Tryd.func43, Tryd.ntmps43
  go_wp2_with (first
    | (at_range; refine wpList_set_range rfl _ 51 rfl _ keyI Tryd.underlying51 bs Ls rfl hs ?_; intro w0 cnt0 hrg0 hg0 hs0)
    | go_in)
  go_frame
  go_loopw [8] (fun _ wr => ∃ (left : Nat → Prop) (cnt : Nat) (Lo : List Nat), RSet Tryd.prog 3 eI okI wr bs w.heap.size Ls left cnt ∧ SI wr bd Lo ∧ (∀ x, x ∈ Lo ↔ x ∈ Ld ∨ (x ∈ Ls ∧ ¬ left x)) ∧ w.grownBy wr (some bd))
    (fun _ wr => wr.rangeLeft bs w.heap.size)
  case atStart =>
    exact ⟨_, _, Ld, hrg0, hd.kept hg0 (by simp), fun x => ⟨.inl, fun h => h.elim id fun h => absurd h.1 h.2⟩, hg0.but _⟩
  case round =>
    obtain ⟨left, cnt, Lo, hrg, hout, hM, hgw⟩ := hrel
    go_wp2_with (first
      | (at_next; refine wpList_set_next rfl _ rfl keyI bs w.heap.size Ls left cnt rfl hrg ?_ ?_)
      | go_in)
    · intro h0
      go_wp2
      go_end0
      exact ⟨rfl, hout.congr fun x => (hM x).trans ⟨fun h => List.mem_append.2 (h.imp id And.left), fun h => (List.mem_append.1 h).imp id fun h => ⟨h, h0 x h⟩⟩, hgw⟩
    · intro x w1 cnt1 hx hl hrg1 hlt hg1 hs1 hen
      have hout1 := hout.kept hg1 (fun e => by have := Option.some.inj e; omega)
      have hok := hs.1 x hx
      go_wp2_with (first
        | (at_mapUpdate; refine wpList_set_store rfl _ _ _ 51 rfl _ keyI Tryd.underlying51 bd Lo rfl hout1 x hok rfl rfl ?_; intro w2 hout2 hg2; go_frame)
        | go_in)
      have hrg2 := hrg1.kept hg2 (fun e => hne (Option.some.inj e).symm) (fun e => by have := Option.some.inj e; omega)
      go_roundw
      case rel =>
        refine ⟨_, cnt1, _, hrg2, hout2, fun z => ?_, (hgw.andThen hg1 (fun j hj => .inl (by cases hj; exact Nat.le_refl _))).andThen hg2 (fun j hj => .inr hj)⟩
        rw [List.mem_append, hM z, List.mem_singleton]
        constructor
        · rintro ((h | ⟨h1, h2⟩) | rfl)
          · exact .inl h
          · exact .inr ⟨h1, fun h => h2 h.1⟩
          · exact .inr ⟨hx, fun h => h.2 rfl⟩
        · rintro (h | ⟨h1, h2⟩)
          · exact .inl (.inl h)
          · by_cases e : z = x
            · exact .inr e
            · exact .inl (.inr ⟨h1, fun h => h2 ⟨h, e⟩⟩)
      case measure => rw [hrg2.left_eq, hrg.left_eq]; exact hlt
set_option maxRecDepth 100000 in
set_option maxHeartbeats 2000000 in
theorem both_any (a b : Nat) (La Lb : List Nat) (w : World) (ha : SI w a La) (hb : SI w b Lb) :
    Calls Tryd.prog 33 #[.map (some a), .map (some b)] w fun e w' => ∃ g, e = .returned (.map (some g)) ∧ w.heap.size ≤ g ∧ SI w' g (La ++ Lb) ∧ Below w.heap.size w w' := by
  have hc := clone_any a La w ha
  have hbl := hb.lt
  go_enter Tryd.func33, Tryd.ntmps33
  go_wp2_with fail
  refine hc.mono ?_
  rintro e w1 ⟨rfl, hs1, hb1⟩
  have hcp := copy_any w.heap.size b La Lb w1 hs1 (hb.below hb1 hbl) (by omega)
  go_wp2_with fail
  refine hcp.mono ?_
  rintro e w2 ⟨rfl, hs2, hg2⟩
  go_wp2_with fail
  go_ret
  exact ⟨_, rfl, Nat.le_refl _, hs2, hb1.grown hg2 hb1.size (fun j hj => by cases hj; exact Nat.le_refl _)⟩
end Go.Proofs.YtchhbnnpannnhaaDoor
