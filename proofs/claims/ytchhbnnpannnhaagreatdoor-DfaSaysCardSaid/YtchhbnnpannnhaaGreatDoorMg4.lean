/- Texts joined, each with its own conditions. (1) nfa.of: where a tree can begin and end, and the pairs of places that follow one another. No condition. (2) nfa.of at one or the other, one behind the other, so many times. No condition. (3) nfa.of at one behind the other. No condition. (4) nfa.of at so many times; at any tree. No condition. (5) Package re's reading of a pattern: its walk. No condition. -/
import Derived.Test.YtchhbnnpannnhaaGreatDoorMg3
import Derived.StillTailTactics
import Derived.Deep.RegionWith
import Derived.Deep.Cut
namespace Go.Proofs.YtchhbnnpannnhaaGreatDoor
open Go.RowKit Go.Maps
open Go.ChangeMaps (setBlock)
set_option linter.unusedVariables false

/-- Few signs. -/
def Sm (n : Nat) : Pt → Prop
  | .sgn _ k => k < n
  | .alt l r => Sm n l ∧ Sm n r
  | .seq l r => Sm n l ∧ Sm n r
  | .str l => Sm n l
  | _ => True
theorem Sm.of_num : ∀ {t : Pt} {a b n : Nat}, Num t a b → b ≤ n → Sm n t
  | .non, a, b, n, h, hb => trivial
  | .emp, a, b, n, h, hb => trivial
  | .sgn _ k, a, b, n, h, hb => by obtain ⟨h1, h2⟩ := h; show k < n; omega
  | .alt l r, a, b, n, h, hb => by
    obtain ⟨m, h1, h2⟩ := h
    have := h2.len
    exact ⟨Sm.of_num h1 (by omega), Sm.of_num h2 hb⟩
  | .seq l r, a, b, n, h, hb => by
    obtain ⟨m, h1, h2⟩ := h
    have := h2.len
    exact ⟨Sm.of_num h1 (by omega), Sm.of_num h2 hb⟩
  | .str l, a, b, n, h, hb => Sm.of_num (t := l) h hb
theorem nd_at {w : World} {g k : Nat} {c : UInt8} (h : Nd w (.sgn c k) g) : w.cell? ⟨g, 2, none⟩ = some (.int .i64 (k : Int)) := by
  rw [cell_of_row w g 2 _ _ (0, 0) h]; rfl
theorem Nd.grown {w w' : World} {t : Pt} {g b : Nat} (h : Nd w t g) (hg : w.grownBy w' (some b)) (hb : ∀ o t f, w.heap[b]? ≠ some (.cells o t f)) : Nd w' t g :=
  h.keep fun k c a l r g hh => by
    refine hg.block g (Array.getElem?_eq_some_iff.1 hh).1 fun e => ?_
    have e := Option.some.inj e
    subst e
    exact hb _ _ _ hh
theorem MSet.cells {α : Type} {P : Program} {k : TypeId} {enc : α → Value} {ok : α → Prop} {w : World} {b : Nat} {L : List α} (h : MSet P k enc ok w b L) : ∀ o t f, w.heap[b]? ≠ some (.cells o t f) := by
  obtain ⟨_, D, ⟨es, clock, hb, _⟩, _⟩ := h
  intro o t f e
  rw [hb] at e
  cases e
/-- What nfa.of does at a tree. -/
def OfC (t : Pt) : Prop := ∀ (g bn : Nat) (Ln : List (Nat × Nat)) (w : World), Nd w t g → SJ w bn Ln → Sm 64 t →
  Calls Tryz.prog 46 #[.pointer (bl g), .map (some bn)] w fun e w' => ∃ a b, e = .returned (.tuple #[.map (some a), .map (some b)]) ∧ w.heap.size ≤ a ∧ w.heap.size ≤ b ∧ SI w' a (fsP t) ∧ SI w' b (lsP t) ∧ SJ w' bn (Ln ++ prP t) ∧ w.grownBy w' (some bn)
theorem two_maps (w : World) : SI ((w.alloc (.map #[] 0)).alloc (.map #[] 0)) w.heap.size [] ∧ SI ((w.alloc (.map #[] 0)).alloc (.map #[] 0)) (w.heap.size + 1) [] := by
  refine ⟨(MSet.made Tryz.prog 3 eI okI w).alloc _, ?_⟩
  have h := MSet.made Tryz.prog 3 eI okI (w.alloc (.map #[] 0))
  rw [World.size_alloc] at h
  exact h
set_option maxRecDepth 100000 in
set_option maxHeartbeats 4000000 in
theorem of_emp (t : Pt) (ht : t = .emp ∨ t = .non) : OfC t := by
  intro g bn Ln w h hn hsm
  have k0 := h.kind
  have hk : kd t = 0 ∨ kd t = 1 := by rcases ht with rfl | rfl <;> simp [kd]
  have e1 : fsP t = [] ∧ lsP t = [] ∧ prP t = [] := by rcases ht with rfl | rfl <;> exact ⟨rfl, rfl, rfl⟩
  have hmm := @run_makeMap Tryz.prog
  have HN := Lib.hid hn
  have hnl := hn.lt
  rw [e1.1, e1.2.1, e1.2.2]
  have kb : ∀ o, (w.alloc o).cell? ⟨g, 0, none⟩ = some (.int .i64 (kd t)) := fun o => (World.cell?_of_block (w := w) (Below.heap_alloc _ _ _ h.lt)).trans k0
  generalize kd t = kt at *
  clear h hn hsm e1 ht k0
  have k1 : (kt : Int) ≠ 2 := by omega
  have k2 : (kt : Int) ≠ 3 := by omega
  have k3 : (kt : Int) ≠ 4 := by omega
  have k4 : (kt : Int) ≠ 5 := by omega
  go_enter Tryz.func46, Tryz.ntmps46
  go_wp2_with fail
  go_ret2
  have h2 := two_maps (w.alloc (.cells #[.map (some bn)] 88))
  rw [World.size_alloc] at h2
  exact ⟨_, _, rfl, by omega, by omega, h2.1, h2.2, by rw [List.append_nil]; exact ((HN.out.alloc _).alloc _).alloc _, ((World.grownBy_alloc w _ _).trans (World.grownBy_alloc _ _ _)).trans (World.grownBy_alloc _ _ _)⟩
/-- A map with one key. -/
abbrev mOne (k : Nat) : Obj := .map #[⟨eI k, .bool true, 0⟩] 1
theorem run_put1 (w : World) (b k : Nat) (hk : k < 64) (hb : w.heap[b]? = some (.map #[] 0)) :
    (Instr.mapUpdate 89 (.map (some b)) (eI k) (.bool true)).run Tryz.prog w = .ok () (setBlock w b (mOne k)) := by
  obtain ⟨kl, hkl⟩ := keyI.read k hk
  rcases lawI.find w hkl [] (by simp) with ⟨h1, _⟩ | ⟨j, e, _, h2, _⟩
  · simp [Instr.mapUpdate, run_underlying Tryz.underlying89, MapKept.run_getObj_map hb, lawI.check w false hkl, h1, MapKept.run_setObj_map _ hb, Result.andThen, setBlock]
  · simp at h2
theorem setBlock_last (w : World) (o o' : Obj) : setBlock (w.alloc o) w.heap.size o' = w.alloc o' := by
  have : (w.heap.push o).setIfInBounds w.heap.size o' = w.heap.push o' := by
    apply Array.ext_getElem?
    intro i
    rw [Array.getElem?_setIfInBounds, Array.getElem?_push, Array.getElem?_push]
    by_cases h : w.heap.size = i
    · subst h; simp
    · rw [if_neg h, if_neg (Ne.symm h), if_neg (Ne.symm h)]
  unfold setBlock World.alloc
  simp [this]
theorem setBlock_before (w : World) (o o' p : Obj) : setBlock ((w.alloc o).alloc p) w.heap.size o' = (w.alloc o').alloc p := by
  have : ((w.heap.push o).push p).setIfInBounds w.heap.size o' = (w.heap.push o').push p := by
    apply Array.ext_getElem?
    intro i
    rw [Array.getElem?_setIfInBounds]
    by_cases h : w.heap.size = i
    · subst h; simp [Array.getElem?_push]; omega
    · rw [if_neg h]
      simp only [Array.getElem?_push, Array.size_push]
      simp [Ne.symm h]
  unfold setBlock World.alloc
  simp [this]
theorem put_last (w : World) (k : Nat) (hk : k < 64) : (Instr.mapUpdate 89 (.map (some w.heap.size)) (eI k) (.bool true)).run Tryz.prog (w.alloc (.map #[] 0)).drew = .ok () (w.alloc (mOne k)).drew := by
  rw [run_put1 (w.alloc (.map #[] 0)).drew _ k hk (heap_alloc_new w (.map #[] 0))]
  exact congrArg (fun z : World => Result.ok () z.drew) (setBlock_last w (.map #[] 0) (mOne k))
theorem put_before (w : World) (k : Nat) (hk : k < 64) (o : Obj) : (Instr.mapUpdate 89 (.map (some w.heap.size)) (eI k) (.bool true)).run Tryz.prog ((w.alloc (.map #[] 0)).alloc o).drew = .ok () ((w.alloc (mOne k)).alloc o).drew := by
  rw [run_put1 ((w.alloc (.map #[] 0)).alloc o).drew _ k hk ((Below.heap_alloc (w.alloc (.map #[] 0)) o _ (by simp)).trans (heap_alloc_new w (.map #[] 0)))]
  exact congrArg (fun z : World => Result.ok () z.drew) (setBlock_before w (.map #[] 0) (mOne k) o)
theorem one_set (w : World) (b k : Nat) (hk : k < 64) (hb : w.heap[b]? = some (mOne k)) : SI w b [k] := by
  obtain ⟨w', hrun, h1, _⟩ := (MSet.made Tryz.prog 3 eI okI w).update keyI Tryz.underlying89 k hk
  rw [run_put1 _ _ k hk (heap_alloc_new w (.map #[] 0))] at hrun
  injection hrun with _ hrun
  subst hrun
  rw [setBlock_last] at h1
  exact h1.block (hb.trans (heap_alloc_new w (mOne k)).symm)
theorem grown_drew {w w' : World} {row : Option Nat} (h : w.grownBy w' row) : w.grownBy w'.drew row := ⟨h.os, h.tape, h.output, h.size, h.block⟩
set_option maxRecDepth 100000 in
set_option maxHeartbeats 4000000 in
theorem of_sgn (c : UInt8) (k : Nat) : OfC (.sgn c k) := by
  intro g bn Ln w h hn hsm
  have hk64 : k < 64 := hsm
  have k0 := h.kind
  have k2 := nd_at h
  have hmm := @run_makeMap Tryz.prog
  have HN := Lib.hid hn
  have hnl := hn.lt
  have kb : ∀ o, (w.alloc o).cell? ⟨g, 0, none⟩ = some (.int .i64 2) := fun o => (World.cell?_of_block (w := w) (Below.heap_alloc _ _ _ h.lt)).trans k0
  go_enter Tryz.func46, Tryz.ntmps46
  go_upto_region 4 with fail
  have hz : (w.alloc (.cells #[.map (some bn)] 88)).heap.size = w.heap.size + 1 := by simp
  have kc2 : (w.alloc (.cells #[.map (some bn)] 88)).cell? ⟨g, 2, none⟩ = some (.int .i64 (k : Int)) := (World.cell?_of_block (w := w) (Below.heap_alloc _ _ _ h.lt)).trans k2
  have hgl := h.lt
  generalize hW : w.alloc (.cells #[.map (some bn)] 88) = W at *
  have HW : Hid (SJ W bn Ln ∧ w.grownBy W (some bn) ∧ w.heap.size ≤ W.heap.size) := by
    subst hW
    exact ⟨HN.out.alloc _, World.grownBy_alloc w _ _, by simp⟩
  clear hW hn hsm
  have hgW : g < W.heap.size := by omega
  have q1 : ∀ o, (W.alloc o).cell? ⟨g, 2, none⟩ = some (.int .i64 (k : Int)) := fun o => (World.cell?_of_block (w := W) (Below.heap_alloc _ _ _ hgW)).trans kc2
  have q2 : ∀ o o', ((W.alloc o).alloc o').cell? ⟨g, 2, none⟩ = some (.int .i64 (k : Int)) := fun o o' => (World.cell?_of_block (w := W.alloc o) (Below.heap_alloc _ _ _ (by rw [World.size_alloc]; exact Nat.lt_succ_of_lt hgW))).trans (q1 o)
  have p1 := put_last W k hk64
  have p2 := put_before W k hk64
  have p3 := fun o => put_last (W.alloc o) k hk64
  simp only [World.size_alloc] at p3
  clear h kb k0 k2 hz
  go_region
  all_goals
    have hT : ∀ b, b = W.heap.size ∨ b = W.heap.size + 1 → ((W.alloc (mOne k)).alloc (mOne k)).drew.heap[b]? = some (mOne k) := by
      rintro b (rfl | rfl)
      · exact (Below.heap_alloc (W.alloc (mOne k)) (mOne k) _ (by simp)).trans (heap_alloc_new W (mOne k))
      · have h := heap_alloc_new (W.alloc (mOne k)) (mOne k)
        rw [World.size_alloc] at h
        exact h
    have HT := Lib.hid hT
    clear hT
    go_wp2_with fail
    go_ret2
    have hT := HT.out
    refine ⟨_, _, rfl, ?_, ?_, one_set _ _ k hk64 ?_, one_set _ _ k hk64 ?_, ?_, ?_⟩
    · have := HW.out.2.2; omega
    · have := HW.out.2.2; omega
    · first | exact hT _ (.inl rfl) | exact hT _ (.inr rfl)
    · first | exact hT _ (.inl rfl) | exact hT _ (.inr rfl)
    · show SJ _ bn (Ln ++ [])
      rw [List.append_nil]
      exact ((HW.out.1.alloc (mOne k)).alloc (mOne k)).block rfl
    · exact grown_drew (HW.out.2.1.trans ((World.grownBy_alloc W (mOne k) _).trans (World.grownBy_alloc (W.alloc (mOne k)) (mOne k) _)))
end Go.Proofs.YtchhbnnpannnhaaGreatDoor

namespace Go.Proofs.YtchhbnnpannnhaaGreatDoor
open Go.RowKit Go.Maps
set_option linter.unusedVariables false

/-- The world as it stands in nfa.of: next's box; of what lay before but the pairs have turned. -/
structure OfS (bn bx : Nat) (w W0 W : World) : Prop where
  start : Below w.heap.size w W0
  grown : W0.grownBy W (some bn)
  map : ∀ o t f, W0.heap[bn]? ≠ some (.cells o t f)
  box : W0.cell? ⟨bx, 0, none⟩ = some (.map (some bn))
  old : bn < w.heap.size
theorem OfS.start' {bn bx : Nat} {w W0 : World} {L : List (Nat × Nat)} (hb : W0.cell? ⟨bx, 0, none⟩ = some (.map (some bn))) (h : SJ W0 bn L) (hB : Below w.heap.size w W0) (ho : bn < w.heap.size) : OfS bn bx w W0 W0 := ⟨hB, World.grownBy.refl _ _, h.cells, hb, ho⟩
theorem OfS.cell {bn bx : Nat} {w W0 W : World} (h : OfS bn bx w W0 W) {a : Addr} {v : Value} (hc : W0.cell? a = some v) : W.cell? a = some v := by
  refine h.grown.cell hc fun e => ?_
  have e := Option.some.inj e
  unfold World.cell? at hc
  have := h.map
  rw [e] at hc
  revert hc
  cases hb : W0.heap[bn]? with
  | none => simp
  | some o =>
    cases o <;> simp_all
theorem OfS.nd {bn bx : Nat} {w W0 W : World} (h : OfS bn bx w W0 W) {t : Pt} {q : Nat} (hn : Nd W0 t q) : Nd W t q := hn.grown h.grown h.map
theorem OfS.drew {bn bx : Nat} {w W0 W : World} (h : OfS bn bx w W0 W) : OfS bn bx w W0 W.drew := ⟨h.start, grown_drew h.grown, h.map, h.box, h.old⟩
theorem OfS.by {bn bx : Nat} {w W0 W W' : World} (h : OfS bn bx w W0 W) (hg : W.grownBy W' (some bn)) : OfS bn bx w W0 W' := ⟨h.start, h.grown.trans hg, h.map, h.box, h.old⟩
theorem OfS.below {bn bx : Nat} {w W0 W W' : World} (h : OfS bn bx w W0 W) (hb : Below W.heap.size W W') : OfS bn bx w W0 W' := h.by (grown_of_below hb (Nat.le_refl _) _)
theorem OfS.size {bn bx : Nat} {w W0 W : World} (h : OfS bn bx w W0 W) : W0.heap.size ≤ W.heap.size := h.grown.size
theorem OfS.end_ {bn bx : Nat} {w W0 W : World} (h : OfS bn bx w W0 W) : w.grownBy W (some bn) := (grown_of_below h.start (Nat.le_refl _) (some bn)).trans h.grown

set_option maxRecDepth 100000 in
set_option maxHeartbeats 4000000 in
theorem of_alt (l r : Pt) (ihl : OfC l) (ihr : OfC r) : OfC (.alt l r) := by
  intro g bn Ln w h hn hsm
  have k0 := h.kind
  obtain ⟨a, b, h0, h1, h2⟩ := h
  have k3 : w.cell? ⟨g, 3, none⟩ = some (.pointer (some ⟨a, 0, none⟩)) := by rw [cell_of_row w g 3 _ _ (0, 0) h0]; rfl
  have k4 : w.cell? ⟨g, 4, none⟩ = some (.pointer (some ⟨b, 0, none⟩)) := by rw [cell_of_row w g 4 _ _ (0, 0) h0]; rfl
  have hgl : g < w.heap.size := (Array.getElem?_eq_some_iff.1 h0).1
  have kb : ∀ o, (w.alloc o).cell? ⟨g, 0, none⟩ = some (.int .i64 3) := fun o => (World.cell?_of_block (w := w) (Below.heap_alloc _ _ _ hgl)).trans k0
  have kk3 : ∀ o, (w.alloc o).cell? ⟨g, 3, none⟩ = some (.pointer (some ⟨a, 0, none⟩)) := fun o => (World.cell?_of_block (w := w) (Below.heap_alloc _ _ _ hgl)).trans k3
  have kk4 : ∀ o, (w.alloc o).cell? ⟨g, 4, none⟩ = some (.pointer (some ⟨b, 0, none⟩)) := fun o => (World.cell?_of_block (w := w) (Below.heap_alloc _ _ _ hgl)).trans k4
  have hbelow : ∀ o, Below w.heap.size w (w.alloc o) := fun o => (Below.refl _ w).alloc (Nat.le_refl _) o
  have HL := Lib.hid ihl
  have HR := Lib.hid ihr
  have HS := Lib.hid (show Sm 64 l ∧ Sm 64 r from hsm)
  have HT : Hid (fsP (.alt l r) = fsP l ++ fsP r ∧ lsP (.alt l r) = lsP l ++ lsP r ∧ prP (.alt l r) = prP l ++ prP r) := Lib.hid ⟨rfl, rfl, rfl⟩
  have hbx : (w.alloc (.cells #[.map (some bn)] 88)).cell? ⟨w.heap.size, 0, none⟩ = some (.map (some bn)) := by rw [cell_of_row _ w.heap.size 0 _ _ (0, 0) (heap_alloc_new w _)]; rfl
  have HN := Lib.hid hn
  have HD := Lib.hid (And.intro h1 h2)
  clear ihl ihr hsm hn h0 h1 h2 k0 k3 k4
  generalize fsP (.alt l r) = F at *
  generalize lsP (.alt l r) = G at *
  generalize prP (.alt l r) = E at *
  go_enter Tryz.func46, Tryz.ntmps46
  go_upto_region 6 with fail
  have c0 := kk3 (.cells #[.map (some bn)] 88)
  have c4 := kk4 (.cells #[.map (some bn)] 88)
  have HB0 := Lib.hid (hbelow (.cells #[.map (some bn)] 88))
  have hsz : (w.alloc (.cells #[.map (some bn)] 88)).heap.size = w.heap.size + 1 := by simp
  have cb := hbx
  clear kb kk3 kk4 hbelow hbx
  generalize w.alloc (.cells #[.map (some bn)] 88) = W0 at *
  have HW0 : Hid (OfS bn w.heap.size w W0 W0 ∧ SJ W0 bn Ln) := Lib.hid ⟨OfS.start' cb (HN.out.below HB0.out HN.out.lt) HB0.out HN.out.lt, HN.out.below HB0.out HN.out.lt⟩
  have HDL := Lib.hid (HD.out.1.below HB0.out)
  have HDR := Lib.hid (HD.out.2.below HB0.out)
  have HC4 := Lib.hid c4
  have cW := c0
  clear HN HD HB0 c4
  go_cut [7, 8] from 38 to 122 (fun f1 l1 wx => ∃ a1 b1, f1 = .map (some a1) ∧ l1 = .map (some b1) ∧ Hid (OfS bn w.heap.size w W0 wx ∧ SJ wx bn (Ln ++ prP l) ∧ SI wx a1 (fsP l) ∧ SI wx b1 (lsP l) ∧ W0.heap.size ≤ a1 ∧ W0.heap.size ≤ b1))
  case first =>
    go_region_with (refine (HL.out a bn Ln _ (HW0.out.1.drew.nd HDL.out) (HW0.out.2.block rfl) HS.out.1).mono ?_; rintro e w1 ⟨a1, b1, rfl, h5, h6, h7, h8, h9, h10⟩; have HX : Hid (OfS bn w.heap.size w W0 w1 ∧ SJ w1 bn (Ln ++ prP l) ∧ SI w1 a1 (fsP l) ∧ SI w1 b1 (lsP l) ∧ W0.heap.size ≤ a1 ∧ W0.heap.size ≤ b1) := Lib.hid ⟨HW0.out.1.drew.by h10, h9, h7, h8, h5, h6⟩; clear h5 h6 h7 h8 h9 h10)
    all_goals
      go_wp2_with fail
      go_meet
      exact ⟨_, _, rfl, rfl, HX⟩
  case rest =>
    obtain ⟨a1, b1, rfl, rfl, HX⟩ := hcut
    have c4 := HX.out.1.cell HC4.out
    have cx := HX.out.1.cell cb
    clear c0 cW cb
    go_upto_region 7 with fail
    go_cut [9, 10] from 47 to 122 (fun f1 l1 wx => ∃ a2 b2, f1 = .map (some a2) ∧ l1 = .map (some b2) ∧ Hid (OfS bn w.heap.size w W0 wx ∧ SJ wx bn (Ln ++ prP l ++ prP r) ∧ SI wx a1 (fsP l) ∧ SI wx b1 (lsP l) ∧ SI wx a2 (fsP r) ∧ SI wx b2 (lsP r)))
    case first =>
      have ha : a1 ≠ bn ∧ b1 ≠ bn := by have h := HX.out; have := h.1.old; have := h.1.start.size; exact ⟨by have := h.2.2.2.2.1; omega, by have := h.2.2.2.2.2; omega⟩
      go_region_with (refine (HR.out b bn _ _ (HX.out.1.drew.nd HDR.out) (HX.out.2.1.block rfl) HS.out.2).mono ?_; rintro e w1 ⟨a2, b2, rfl, h5, h6, h7, h8, h9, h10⟩; have HY : Hid (OfS bn w.heap.size w W0 w1 ∧ SJ w1 bn (Ln ++ prP l ++ prP r) ∧ SI w1 a1 (fsP l) ∧ SI w1 b1 (lsP l) ∧ SI w1 a2 (fsP r) ∧ SI w1 b2 (lsP r)) := Lib.hid ⟨HX.out.1.drew.by h10, h9, MSet.kept (w := wc.drew) (HX.out.2.2.1.block rfl) h10 (fun e => ha.1 (Option.some.inj e)), MSet.kept (w := wc.drew) (HX.out.2.2.2.1.block rfl) h10 (fun e => ha.2 (Option.some.inj e)), h7, h8⟩; clear h5 h6 h7 h8 h9 h10)
      all_goals
        go_wp2_with fail
        go_meet
        exact ⟨_, _, rfl, rfl, HY⟩
    case rest =>
      have HX1 := HX
      clear HX c4 cx
      obtain ⟨a2, b2, rfl, rfl, HX⟩ := hcut
      have HB1 := Lib.hid (both_any a1 a2 _ _ _ HX.out.2.2.1 HX.out.2.2.2.2.1)
      go_wp2_with fail
      refine HB1.out.mono ?_
      rintro e w3 ⟨f, rfl, h5, h6, h7⟩
      have HB2 := Lib.hid (both_any b1 b2 _ _ w3 (HX.out.2.2.2.1.below h7 HX.out.2.2.2.1.lt) (HX.out.2.2.2.2.2.below h7 HX.out.2.2.2.2.2.lt))
      have H5 := Lib.hid (And.intro h5 (And.intro h6 h7))
      clear h5 h6 h7
      go_wp2_with fail
      refine HB2.out.mono ?_
      rintro e w4 ⟨f2, rfl, h5, h6, h7⟩
      have H6 := Lib.hid (And.intro h5 (And.intro h6 h7))
      clear h5 h6 h7
      go_wp2_with fail
      go_ret2
      obtain ⟨h5, h6, h7⟩ := H5.out
      obtain ⟨h8, h9, h10⟩ := H6.out
      have hz := HX.out.1.size
      have hz2 := HX.out.1.start.size
      have hz3 := h7.size
      have hs := HX.out.1.old
      refine ⟨f, f2, rfl, by omega, by omega, ?_, ?_, ?_, ((HX.out.1.below h7).below h10).end_⟩
      · rw [HT.out.1]; exact h6.below h10 h6.lt
      · rw [HT.out.2.1]; exact h9
      · rw [HT.out.2.2, ← List.append_assoc]; exact (HX.out.2.1.below h7 HX.out.2.1.lt).below h10 (by omega)
end Go.Proofs.YtchhbnnpannnhaaGreatDoor

namespace Go.Proofs.YtchhbnnpannnhaaGreatDoor
open Go.RowKit Go.Maps
set_option linter.unusedVariables false

set_option maxRecDepth 100000 in
set_option maxHeartbeats 4000000 in
theorem of_seq (l r : Pt) (ihl : OfC l) (ihr : OfC r) : OfC (.seq l r) := by
  intro g bn Ln w h hn hsm
  have k0 := h.kind
  obtain ⟨a, b, h0, h1, h2⟩ := h
  have k3 : w.cell? ⟨g, 3, none⟩ = some (.pointer (some ⟨a, 0, none⟩)) := by rw [cell_of_row w g 3 _ _ (0, 0) h0]; rfl
  have k4 : w.cell? ⟨g, 4, none⟩ = some (.pointer (some ⟨b, 0, none⟩)) := by rw [cell_of_row w g 4 _ _ (0, 0) h0]; rfl
  have hgl : g < w.heap.size := (Array.getElem?_eq_some_iff.1 h0).1
  have kb : ∀ o, (w.alloc o).cell? ⟨g, 0, none⟩ = some (.int .i64 4) := fun o => (World.cell?_of_block (w := w) (Below.heap_alloc _ _ _ hgl)).trans k0
  have kk3 : ∀ o, (w.alloc o).cell? ⟨g, 3, none⟩ = some (.pointer (some ⟨a, 0, none⟩)) := fun o => (World.cell?_of_block (w := w) (Below.heap_alloc _ _ _ hgl)).trans k3
  have kk4 : ∀ o, (w.alloc o).cell? ⟨g, 4, none⟩ = some (.pointer (some ⟨b, 0, none⟩)) := fun o => (World.cell?_of_block (w := w) (Below.heap_alloc _ _ _ hgl)).trans k4
  have hbelow : ∀ o, Below w.heap.size w (w.alloc o) := fun o => (Below.refl _ w).alloc (Nat.le_refl _) o
  have HL := Lib.hid ihl
  have HR := Lib.hid ihr
  have HS := Lib.hid (show Sm 64 l ∧ Sm 64 r from hsm)
  have HT : Hid (fsP (.seq l r) = (if nul l = true then fsP l ++ fsP r else fsP l) ∧ lsP (.seq l r) = (if nul r = true then lsP r ++ lsP l else lsP r) ∧ prP (.seq l r) = prP l ++ prP r ++ crs (lsP l) (fsP r)) := Lib.hid ⟨rfl, rfl, rfl⟩
  have hbx : (w.alloc (.cells #[.map (some bn)] 88)).cell? ⟨w.heap.size, 0, none⟩ = some (.map (some bn)) := by rw [cell_of_row _ w.heap.size 0 _ _ (0, 0) (heap_alloc_new w _)]; rfl
  have HN := Lib.hid hn
  have HD := Lib.hid (And.intro h1 h2)
  clear ihl ihr hsm hn h0 h1 h2 k0 k3 k4
  generalize fsP (.seq l r) = F at *
  generalize lsP (.seq l r) = G at *
  generalize prP (.seq l r) = E at *
  go_enter Tryz.func46, Tryz.ntmps46
  go_upto_region 10 with fail
  have c0 := kk3 (.cells #[.map (some bn)] 88)
  have c4 := kk4 (.cells #[.map (some bn)] 88)
  have HB0 := Lib.hid (hbelow (.cells #[.map (some bn)] 88))
  have hsz : (w.alloc (.cells #[.map (some bn)] 88)).heap.size = w.heap.size + 1 := by simp
  have cb := hbx
  clear kb kk3 kk4 hbelow hbx
  generalize w.alloc (.cells #[.map (some bn)] 88) = W0 at *
  have HW0 : Hid (OfS bn w.heap.size w W0 W0 ∧ SJ W0 bn Ln) := Lib.hid ⟨OfS.start' cb (HN.out.below HB0.out HN.out.lt) HB0.out HN.out.lt, HN.out.below HB0.out HN.out.lt⟩
  have HDL := Lib.hid (HD.out.1.below HB0.out)
  have HDR := Lib.hid (HD.out.2.below HB0.out)
  have HC4 := Lib.hid c4
  have HC3 := Lib.hid c0
  have HCB := Lib.hid cb
  have cW := c0
  clear HN HD HB0 c4
  go_cut [11, 12] from 64 to 122 (fun f1 l1 wx => ∃ a1 b1, f1 = .map (some a1) ∧ l1 = .map (some b1) ∧ Hid (OfS bn w.heap.size w W0 wx ∧ SJ wx bn (Ln ++ prP l) ∧ SI wx a1 (fsP l) ∧ SI wx b1 (lsP l) ∧ W0.heap.size ≤ a1 ∧ W0.heap.size ≤ b1))
  case first =>
    go_region_with (refine (HL.out a bn Ln _ (HW0.out.1.drew.nd HDL.out) (HW0.out.2.block rfl) HS.out.1).mono ?_; rintro e w1 ⟨a1, b1, rfl, h5, h6, h7, h8, h9, h10⟩; have HX : Hid (OfS bn w.heap.size w W0 w1 ∧ SJ w1 bn (Ln ++ prP l) ∧ SI w1 a1 (fsP l) ∧ SI w1 b1 (lsP l) ∧ W0.heap.size ≤ a1 ∧ W0.heap.size ≤ b1) := Lib.hid ⟨HW0.out.1.drew.by h10, h9, h7, h8, h5, h6⟩; clear h5 h6 h7 h8 h9 h10)
    all_goals
      go_wp2_with fail
      go_meet
      exact ⟨_, _, rfl, rfl, HX⟩
  case rest =>
    obtain ⟨a1, b1, rfl, rfl, HX⟩ := hcut
    have c4 := HX.out.1.cell HC4.out
    have cx := HX.out.1.cell cb
    clear c0 cW cb
    go_upto_region 11 with fail
    go_cut [13, 14] from 73 to 122 (fun f1 l1 wx => ∃ a2 b2, f1 = .map (some a2) ∧ l1 = .map (some b2) ∧ Hid (OfS bn w.heap.size w W0 wx ∧ SJ wx bn (Ln ++ prP l ++ prP r) ∧ SI wx a1 (fsP l) ∧ SI wx b1 (lsP l) ∧ SI wx a2 (fsP r) ∧ SI wx b2 (lsP r) ∧ W0.heap.size ≤ a1 ∧ W0.heap.size ≤ b1 ∧ W0.heap.size ≤ a2 ∧ W0.heap.size ≤ b2))
    case first =>
      have ha : a1 ≠ bn ∧ b1 ≠ bn := by have h := HX.out; have := h.1.old; have := h.1.start.size; exact ⟨by have := h.2.2.2.2.1; omega, by have := h.2.2.2.2.2; omega⟩
      go_region_with (refine (HR.out b bn _ _ (HX.out.1.drew.nd HDR.out) (HX.out.2.1.block rfl) HS.out.2).mono ?_; rintro e w1 ⟨a2, b2, rfl, h5, h6, h7, h8, h9, h10⟩; have HY : Hid (OfS bn w.heap.size w W0 w1 ∧ SJ w1 bn (Ln ++ prP l ++ prP r) ∧ SI w1 a1 (fsP l) ∧ SI w1 b1 (lsP l) ∧ SI w1 a2 (fsP r) ∧ SI w1 b2 (lsP r) ∧ W0.heap.size ≤ a1 ∧ W0.heap.size ≤ b1 ∧ W0.heap.size ≤ a2 ∧ W0.heap.size ≤ b2) := Lib.hid ⟨HX.out.1.drew.by h10, h9, MSet.kept (w := wc.drew) (HX.out.2.2.1.block rfl) h10 (fun e => ha.1 (Option.some.inj e)), MSet.kept (w := wc.drew) (HX.out.2.2.2.1.block rfl) h10 (fun e => ha.2 (Option.some.inj e)), h7, h8, HX.out.2.2.2.2.1, HX.out.2.2.2.2.2, Nat.le_trans HX.out.1.size h5, Nat.le_trans HX.out.1.size h6⟩; clear h5 h6 h7 h8 h9 h10)
      all_goals
        go_wp2_with fail
        go_meet
        exact ⟨_, _, rfl, rfl, HY⟩
    case rest =>
      have HX1 := HX
      clear HX c4 cx
      obtain ⟨a2, b2, rfl, rfl, HX⟩ := hcut
      have HJ := Lib.hid (join_any b1 a2 bn w.heap.size _ _ _ wc HX.out.2.2.2.1 HX.out.2.2.2.2.1 HX.out.2.1 (HX.out.1.cell HCB.out) (by have := HX.out.1.size; omega) (by have := HX.out.1.old; omega) (by have := HX.out.1.old; have := HX.out.2.2.2.2.2.2.2.1; omega) (by have := HX.out.1.old; have := HX.out.2.2.2.2.2.2.2.2.1; omega))
      go_wp2_with fail
      refine HJ.out.mono ?_
      rintro e w3 ⟨rfl, h5, h6⟩
      have HA : Hid (OfS bn w.heap.size w W0 w3 ∧ SJ w3 bn (Ln ++ E) ∧ SI w3 a1 (fsP l) ∧ SI w3 b1 (lsP l) ∧ SI w3 a2 (fsP r) ∧ SI w3 b2 (lsP r) ∧ W0.heap.size ≤ a1 ∧ W0.heap.size ≤ b1 ∧ W0.heap.size ≤ a2 ∧ W0.heap.size ≤ b2) := by
        obtain ⟨x1, x2, x3, x4, x5, x6, x7, x8, x9, x10⟩ := HX.out
        have ho := x1.old
        have hk : ∀ z, W0.heap.size ≤ z → some z ≠ some bn := fun z hz e => by have := Option.some.inj e; omega
        exact ⟨x1.by h6, by rw [HT.out.2.2, ← List.append_assoc, ← List.append_assoc]; exact h5, x3.kept h6 (hk _ x7), x4.kept h6 (hk _ x8), x5.kept h6 (hk _ x9), x6.kept h6 (hk _ x10), x7, x8, x9, x10⟩
      have c3 := HA.out.1.cell HC3.out
      have c4 := HA.out.1.cell HC4.out
      have HN1 := Lib.hid (null_any l a w3 (HA.out.1.nd HDL.out))
      have HN2 := Lib.hid (fun W (h : OfS bn w.heap.size w W0 W) => null_any r b W (h.nd HDR.out))
      have HQ1 := Lib.hid (both_any a1 a2 _ _ w3 HA.out.2.2.1 HA.out.2.2.2.2.1)
      have HQ2 := Lib.hid (fun W (h : Below w3.heap.size w3 W) => both_any b2 b1 _ _ W (HA.out.2.2.2.2.2.1.below h HA.out.2.2.2.2.2.1.lt) (HA.out.2.2.2.1.below h HA.out.2.2.2.1.lt))
      clear h5 h6 HJ HX HX1
      have hg3 : g < w3.heap.size := by have := HA.out.1.size; omega
      cases hx : nul l <;> cases hy : nul r
      all_goals
        have HNX := Lib.hid hx
        have HNY := Lib.hid hy
        rw [hx] at HN1
        rw [hy] at HN2
        clear hx hy
        go_wp2_with fail
        refine HN1.out.mono ?_
        rintro e w' ⟨rfl, rfl⟩
        go_wp2_with fail
      · refine (HN2.out _ HA.out.1).mono ?_
        rintro e w' ⟨rfl, rfl⟩
        go_wp2_with fail
        go_ret2
        obtain ⟨x1, x2, x3, x4, x5, x6, x7, x8, x9, x10⟩ := HA.out
        have hz := x1.start.size
        exact ⟨_, _, rfl, by omega, by omega, by rw [HT.out.1, HNX.out]; exact x3, by rw [HT.out.2.1, HNY.out]; exact x6, x2, x1.end_⟩
      · refine (HN2.out _ HA.out.1).mono ?_
        rintro e w' ⟨rfl, rfl⟩
        go_wp2_with fail
        refine (HQ2.out _ (Below.refl _ _)).mono ?_
        rintro e w5 ⟨f, rfl, h5, h6, h7⟩
        have H5 := Lib.hid (And.intro h5 (And.intro h6 h7))
        clear h5 h6 h7
        go_wp2_with fail
        go_ret2
        obtain ⟨h5, h6, h7⟩ := H5.out
        obtain ⟨x1, x2, x3, x4, x5, x6, x7, x8, x9, x10⟩ := HA.out
        have hz := x1.start.size
        have hz2 := x1.size
        exact ⟨_, _, rfl, by omega, by omega, by rw [HT.out.1, HNX.out]; exact x3.below h7 x3.lt, by rw [HT.out.2.1, HNY.out]; exact h6, x2.below h7 x2.lt, (x1.below h7).end_⟩
      · refine HQ1.out.mono ?_
        rintro e w5 ⟨f, rfl, h5, h6, h7⟩
        have H5 := Lib.hid (And.intro h5 (And.intro h6 h7))
        have c4' := (h7.cell (p := ⟨g, 4, none⟩) hg3).trans c4
        clear h5 h6 h7
        go_wp2_with fail
        refine (HN2.out _ (HA.out.1.below H5.out.2.2)).mono ?_
        rintro e w' ⟨rfl, rfl⟩
        go_wp2_with fail
        go_ret2
        obtain ⟨h5, h6, h7⟩ := H5.out
        obtain ⟨x1, x2, x3, x4, x5, x6, x7, x8, x9, x10⟩ := HA.out
        have hz := x1.start.size
        have hz2 := x1.size
        exact ⟨_, _, rfl, by omega, by omega, by rw [HT.out.1, HNX.out]; exact h6, by rw [HT.out.2.1, HNY.out]; exact x6.below h7 x6.lt, x2.below h7 x2.lt, (x1.below h7).end_⟩
      · refine HQ1.out.mono ?_
        rintro e w5 ⟨f, rfl, h5, h6, h7⟩
        have H5 := Lib.hid (And.intro h5 (And.intro h6 h7))
        have c4' := (h7.cell (p := ⟨g, 4, none⟩) hg3).trans c4
        clear h5 h6 h7
        go_wp2_with fail
        refine (HN2.out _ (HA.out.1.below H5.out.2.2)).mono ?_
        rintro e w' ⟨rfl, rfl⟩
        go_wp2_with fail
        refine (HQ2.out _ H5.out.2.2).mono ?_
        rintro e w6 ⟨f2, rfl, h5, h6, h7⟩
        have H6 := Lib.hid (And.intro h5 (And.intro h6 h7))
        clear h5 h6 h7
        go_wp2_with fail
        go_ret2
        obtain ⟨h5, h6, h7⟩ := H5.out
        obtain ⟨h8, h9, h10⟩ := H6.out
        obtain ⟨x1, x2, x3, x4, x5, x6, x7, x8, x9, x10⟩ := HA.out
        have hz := x1.start.size
        have hz2 := x1.size
        have hz3 := h7.size
        have x2l := x2.lt
        exact ⟨_, _, rfl, by omega, by omega, by rw [HT.out.1, HNX.out]; exact h6.below h10 h6.lt, by rw [HT.out.2.1, HNY.out]; exact h9, (x2.below h7 x2l).below h10 (by omega), ((x1.below h7).below h10).end_⟩
end Go.Proofs.YtchhbnnpannnhaaGreatDoor

namespace Go.Proofs.YtchhbnnpannnhaaGreatDoor
open Go.RowKit Go.Maps
set_option linter.unusedVariables false

set_option maxRecDepth 100000 in
set_option maxHeartbeats 4000000 in
theorem of_str (l : Pt) (ihl : OfC l) : OfC (.str l) := by
  intro g bn Ln w h hn hsm
  have k0 := h.kind
  obtain ⟨a, h0, h1⟩ := h
  have k3 : w.cell? ⟨g, 3, none⟩ = some (.pointer (some ⟨a, 0, none⟩)) := by rw [cell_of_row w g 3 _ _ (0, 0) h0]; rfl
  have hgl : g < w.heap.size := (Array.getElem?_eq_some_iff.1 h0).1
  have kb : ∀ o, (w.alloc o).cell? ⟨g, 0, none⟩ = some (.int .i64 5) := fun o => (World.cell?_of_block (w := w) (Below.heap_alloc _ _ _ hgl)).trans k0
  have kk3 : ∀ o, (w.alloc o).cell? ⟨g, 3, none⟩ = some (.pointer (some ⟨a, 0, none⟩)) := fun o => (World.cell?_of_block (w := w) (Below.heap_alloc _ _ _ hgl)).trans k3
  have hbelow : ∀ o, Below w.heap.size w (w.alloc o) := fun o => (Below.refl _ w).alloc (Nat.le_refl _) o
  have HL := Lib.hid ihl
  have HS := Lib.hid (show Sm 64 l from hsm)
  have HT : Hid (fsP (.str l) = fsP l ∧ lsP (.str l) = lsP l ∧ prP (.str l) = prP l ++ crs (lsP l) (fsP l)) := Lib.hid ⟨rfl, rfl, rfl⟩
  have hbx : (w.alloc (.cells #[.map (some bn)] 88)).cell? ⟨w.heap.size, 0, none⟩ = some (.map (some bn)) := by rw [cell_of_row _ w.heap.size 0 _ _ (0, 0) (heap_alloc_new w _)]; rfl
  have HN := Lib.hid hn
  have HD := Lib.hid h1
  clear ihl hsm hn h0 h1 k0 k3
  generalize fsP (.str l) = F at *
  generalize lsP (.str l) = G at *
  generalize prP (.str l) = E at *
  go_enter Tryz.func46, Tryz.ntmps46
  go_upto_region 19 with fail
  have c0 := kk3 (.cells #[.map (some bn)] 88)
  have HB0 := Lib.hid (hbelow (.cells #[.map (some bn)] 88))
  have hsz : (w.alloc (.cells #[.map (some bn)] 88)).heap.size = w.heap.size + 1 := by simp
  have cb := hbx
  clear kb kk3 hbelow hbx
  generalize w.alloc (.cells #[.map (some bn)] 88) = W0 at *
  have HW0 : Hid (OfS bn w.heap.size w W0 W0 ∧ SJ W0 bn Ln) := Lib.hid ⟨OfS.start' cb (HN.out.below HB0.out HN.out.lt) HB0.out HN.out.lt, HN.out.below HB0.out HN.out.lt⟩
  have HDL := Lib.hid (HD.out.below HB0.out)
  have cW := c0
  have HCB := Lib.hid cb
  clear HN HD HB0
  go_cut [15, 16] from 106 to 122 (fun f1 l1 wx => ∃ a1 b1, f1 = .map (some a1) ∧ l1 = .map (some b1) ∧ Hid (OfS bn w.heap.size w W0 wx ∧ SJ wx bn (Ln ++ prP l) ∧ SI wx a1 (fsP l) ∧ SI wx b1 (lsP l) ∧ W0.heap.size ≤ a1 ∧ W0.heap.size ≤ b1))
  case first =>
    go_region_with (refine (HL.out a bn Ln _ (HW0.out.1.drew.nd HDL.out) (HW0.out.2.block rfl) HS.out).mono ?_; rintro e w1 ⟨a1, b1, rfl, h5, h6, h7, h8, h9, h10⟩; have HX : Hid (OfS bn w.heap.size w W0 w1 ∧ SJ w1 bn (Ln ++ prP l) ∧ SI w1 a1 (fsP l) ∧ SI w1 b1 (lsP l) ∧ W0.heap.size ≤ a1 ∧ W0.heap.size ≤ b1) := Lib.hid ⟨HW0.out.1.drew.by h10, h9, h7, h8, h5, h6⟩; clear h5 h6 h7 h8 h9 h10)
    all_goals
      go_wp2_with fail
      go_meet
      exact ⟨_, _, rfl, rfl, HX⟩
  case rest =>
    obtain ⟨a1, b1, rfl, rfl, HX⟩ := hcut
    have HJ := Lib.hid (join_any b1 a1 bn w.heap.size _ _ _ wc HX.out.2.2.2.1 HX.out.2.2.1 HX.out.2.1 (HX.out.1.cell HCB.out) (by have := HX.out.1.size; omega) (by have := HX.out.1.old; omega) (by have := HX.out.1.old; have := HX.out.2.2.2.2.2; omega) (by have := HX.out.1.old; have := HX.out.2.2.2.2.1; omega))
    clear c0 cW cb
    go_wp2_with fail
    refine HJ.out.mono ?_
    rintro e w3 ⟨rfl, h5, h6⟩
    have H5 := Lib.hid (And.intro h5 h6)
    clear h5 h6
    go_wp2_with fail
    go_ret2
    obtain ⟨h5, h6⟩ := H5.out
    obtain ⟨x1, x2, x3, x4, x5, x6⟩ := HX.out
    have hz := x1.start.size
    have ho := x1.old
    have hk : ∀ z, W0.heap.size ≤ z → some z ≠ some bn := fun z hz e => by have := Option.some.inj e; omega
    exact ⟨_, _, rfl, by omega, by omega, by rw [HT.out.1]; exact x3.kept h6 (hk _ x5), by rw [HT.out.2.1]; exact x4.kept h6 (hk _ x6), by rw [HT.out.2.2, ← List.append_assoc]; exact h5, (x1.by h6).end_⟩
/-- nfa.of, of any tree. -/
theorem of_any : ∀ t : Pt, OfC t
  | .non => of_emp _ (.inr rfl)
  | .emp => of_emp _ (.inl rfl)
  | .sgn c k => of_sgn c k
  | .alt l r => of_alt l r (of_any l) (of_any r)
  | .seq l r => of_seq l r (of_any l) (of_any r)
  | .str l => of_str l (of_any l)
end Go.Proofs.YtchhbnnpannnhaaGreatDoor

namespace Go.Proofs.YtchhbnnpannnhaaGreatDoor
open Go.RowKit IntWalk
attribute [local go_sem] byte_at str_app

/-- Numbers go no farther than signs. -/
def Kb (E : PRd) : Prop := ∀ s k t r k', E s k = some (t, r, k') → k' + r.length ≤ k + s.length
theorem Lv.kb {E : PRd} (h : Lv E) : Kb E := fun s k t r k' e => by
  obtain ⟨u, q1, q2, q3⟩ := h _ _ _ _ _ e
  have h1 := q3.len
  rw [q2] at h1
  have h2 : (lets u).length ≤ u.length := List.length_filter_le _ _
  rw [q1, List.length_append]
  omega
/-- What a reading answers: the reader's block, the answer. -/
def Says (x : PRes) (r : Nat) (e : Ending) (w' : World) : Prop :=
  match x with
  | none => (∃ v, e = .returned (.tuple #[.pointer v, .bool false])) ∧ ∃ s k, w'.heap[r]? = some (rObj s k)
  | some (t, s, k) => ∃ g, e = .returned (.tuple #[.pointer (bl g), .bool true]) ∧ Nd w' t g ∧ w'.heap[r]? = some (rObj s k)
def ConOne (E : PRd) (n : Nat) : Prop := ∀ (s : List UInt8) (k r : Nat) (w : World), 0 < s.length → s.length ≤ n → k + s.length ≤ 100 → w.heap[r]? = some (rObj s k) →
  Calls Tryz.prog 89 #[.pointer (bl r)] w fun e w' => Says (E s k) r e w' ∧ Fr1 r w w'
def ConRow (E : PRd) (n : Nat) : Prop := ∀ (s : List UInt8) (k r : Nat) (w : World), s.length ≤ n → k + s.length ≤ 100 → w.heap[r]? = some (rObj s k) →
  Calls Tryz.prog 72 #[.pointer (bl r)] w fun e w' => Says (E s k) r e w' ∧ Fr1 r w w'
def ConEit (E : PRd) (n : Nat) : Prop := ∀ (s : List UInt8) (k r : Nat) (w : World), s.length ≤ n → k + s.length ≤ 100 → w.heap[r]? = some (rObj s k) →
  Calls Tryz.prog 59 #[.pointer (bl r)] w fun e w' => Says (E s k) r e w' ∧ Fr1 r w w'
theorem isE_ne {s : List UInt8} (h : 0 < s.length) : s.isEmpty = false := by
  cases s with
  | nil => exact absurd h (by simp)
  | cons => rfl
theorem cons_of {s : List UInt8} (h : 0 < s.length) : s = bu s 0 :: s.drop 1 := by
  cases s with
  | nil => exact absurd h (by simp)
  | cons => rfl

theorem one_at (E : PRd) (s : List UInt8) (k : Nat) (h : 0 < s.length) : oneE E s k = if 97 ≤ bu s 0 ∧ bu s 0 ≤ 122 then some (.sgn (bu s 0) k, s.drop 1, k + 1)
    else if bu s 0 = 40 then
      match E (s.drop 1) k with
      | none => none
      | some (_, [], _) => none
      | some (n, _ :: s2, k2) => some (fixE n, s2, k2)
    else none := by
  cases s with
  | nil => exact absurd h (by simp)
  | cons c s => exact oneE_cons E c s k
theorem kd_emp {t : Pt} (h : kd t = 1) : t = .emp := by
  cases t with
  | emp => rfl
  | _ => exact absurd h (by show ¬ ((_ : Int) = _); intro e; cases e)
theorem fix_of {t : Pt} (h : kd t ≠ 1) : fixE t = t := by
  cases t with
  | emp => exact absurd rfl h
  | _ => rfl
theorem addRow_of {n : Pt} (m : Pt) (h : kd n ≠ 1) : addRow n m = .seq n m := by
  cases n with
  | emp => exact absurd rfl h
  | _ => rfl
theorem kd_str {t : Pt} (h : kd t = 5) : addStar t = t := by
  cases t with
  | str l => rfl
  | _ => exact absurd h (by show ¬ ((_ : Int) = _); intro e; cases e)
theorem addStar_of {t : Pt} (h : kd t ≠ 5) : addStar t = .str t := by
  cases t with
  | str l => exact absurd rfl h
  | _ => rfl
theorem nd_new {W : World} {g : Nat} (hg : W.heap.size = g) (o : Obj) : (W.alloc o).heap[g]? = some o := by subst hg; exact heap_alloc_new W o
theorem sz_set (W : World) (r i : Nat) (v : Value) : (W.setCell ⟨r, i, none⟩ v).heap.size = W.heap.size := by simp [World.setCell]
set_option maxRecDepth 100000 in
set_option maxHeartbeats 2000000 in
theorem one_walk (E : PRd) (n : Nat) (hE : ConEit E n) (hK : Kb E) : ConOne (oneE E) (n + 1) := by
  intro s k r w h0 hn hk hr
  obtain ⟨k0, k1, z0, z1⟩ := rd_cells hr
  have hx := str_from s 1
  have hc := cons_of h0
  have hdl : (s.drop 1).length = s.length - 1 := by simp
  have HO : Hid (oneE E s k = if 97 ≤ bu s 0 ∧ bu s 0 ≤ 122 then some (.sgn (bu s 0) k, s.drop 1, k + 1)
    else if bu s 0 = 40 then
      match E (s.drop 1) k with
      | none => none
      | some (_, [], _) => none
      | some (n, _ :: s2, k2) => some (fixE n, s2, k2)
    else none) := Lib.hid (one_at E s k h0)
  have HE := Lib.hid (fun W => hE (s.drop 1) k r W (by omega) (by omega))
  have HKB := Lib.hid (hK (s.drop 1) k)
  have p1 : (0 : Int) < (s.length : Int) := by omega
  have p2 : (1 : Int) ≤ (s.length : Int) := by omega
  have p3 : 0 < s.length := h0
  have HRD := Lib.hid hr
  have HR1 := Lib.hid (rd_s hr (s.drop 1))
  generalize oneE E s k = X at *
  generalize hb : bu s 0 = c at *
  generalize s.drop 1 = d at *
  have f1 : IntKind.i64.wrap ((k : Int) + 1) = ((k + 1 : Nat) : Int) := by rw [i64_in _ (by omega)]; omega
  have f2 : IntKind.i64.wrap (((k + 1 : Nat) : Int) - 1) = (k : Int) := by rw [i64_in _ (by omega)]; omega
  clear hc hr
  by_cases hlo : 97 ≤ c ∧ c ≤ 122
  · have HX : Hid (X = some (.sgn c k, d, k + 1)) := Lib.hid (by rw [HO.out, if_pos hlo])
    have q1 : (97 : Int) ≤ (c.toNat : Int) := by have := UInt8.le_iff_toNat_le.1 hlo.1; have e : (97 : UInt8).toNat = 97 := rfl; omega
    have q2 : (c.toNat : Int) ≤ 122 := by have := UInt8.le_iff_toNat_le.1 hlo.2; have e : (122 : UInt8).toNat = 122 := rfl; omega
    clear HO HE HKB hlo
    go_enter Tryz.func89, Tryz.ntmps89
    go_wp2_with fail
    go_ret2
    refine ⟨?_, (((Fr1.refl r w).set 0 _).set 1 _).alloc _⟩
    rw [HX.out]
    exact ⟨_, rfl, nd_new (by rw [sz_set, sz_set]) _, rd_alloc (rd_k (rd_s HRD.out d) (k + 1)) _⟩
  by_cases h40 : c = 40
  rotate_left
  · have HX : Hid (X = none) := Lib.hid (by rw [HO.out, if_neg hlo, if_neg h40])
    have q3 : ¬ (c.toNat : Int) = 40 := fun e => h40 (UInt8.toNat_inj.1 (by show c.toNat = 40; omega))
    have q4 : ((c.toNat : Int) == 40) = false := by simpa using q3
    have q5 : (c.toNat == 40) = false := by have : ¬ c.toNat = 40 := by omega
                                            simpa using this
    have hlo' : (97 ≤ c.toNat → ¬ c.toNat ≤ 122) := fun h1 h2 => hlo ⟨UInt8.le_iff_toNat_le.2 h1, UInt8.le_iff_toNat_le.2 h2⟩
    clear HO HE HKB hlo
    go_enter Tryz.func89, Tryz.ntmps89
    by_cases ha : 97 ≤ c.toNat
    · have q1 : (97 : Int) ≤ (c.toNat : Int) := by omega
      have q2 : ¬ (c.toNat : Int) ≤ 122 := by have := hlo' ha; omega
      clear hlo' ha h40
      go_wp2_with fail
      go_ret2
      refine ⟨?_, (Fr1.refl r w).set 0 _⟩
      rw [HX.out]
      exact ⟨⟨none, rfl⟩, d, k, HR1.out⟩
    · have q1 : ¬ (97 : Int) ≤ (c.toNat : Int) := by omega
      clear hlo' ha h40
      go_wp2_with fail
      go_ret2
      refine ⟨?_, (Fr1.refl r w).set 0 _⟩
      rw [HX.out]
      exact ⟨⟨none, rfl⟩, d, k, HR1.out⟩
  · have HO2 : Hid (X = match E d k with
        | none => none
        | some (_, [], _) => none
        | some (n, _ :: s2, k2) => some (fixE n, s2, k2)) := Lib.hid (by rw [HO.out, if_neg hlo, if_pos h40])
    clear HO hlo
    have q1 : ¬ (97 : Int) ≤ (c.toNat : Int) := by rw [h40]; decide
    have q2 : (c.toNat : Int) = 40 := by rw [h40]; rfl
    have q3 : c.toNat = 40 := by omega
    clear h40
    go_enter Tryz.func89, Tryz.ntmps89
    go_wp2_with fail
    refine (HE.out _ HR1.out).mono ?_
    rintro e w2 ⟨hsy, hfr⟩
    have HF := Lib.hid (((Fr1.refl r w).set 0 _).trans hfr)
    clear HE hfr k0 k1 z0 z1 HRD HR1
    cases hq : E d k with
    | none =>
      rw [hq] at hsy
      obtain ⟨⟨v, rfl⟩, s', k', hr'⟩ := hsy
      have HX : Hid (X = none) := Lib.hid (by rw [HO2.out, hq])
      have HR' := Lib.hid hr'
      clear hr' HO2 hq
      go_wp2_with fail
      go_ret2
      refine ⟨?_, HF.out⟩
      rw [HX.out]
      exact ⟨⟨none, rfl⟩, s', k', HR'.out⟩
    | some p =>
      obtain ⟨t, s1, k1⟩ := p
      have hkb := HKB.out _ _ _ hq
      rw [hq] at hsy
      obtain ⟨g, rfl, hnd, hr'⟩ := hsy
      obtain ⟨k0, k1', z0, z1⟩ := rd_cells hr'
      have HR' := Lib.hid hr'
      cases s1 with
      | nil =>
        have HX : Hid (X = none) := Lib.hid (by rw [HO2.out, hq])
        clear hr' HO2 hq hnd
        go_wp2_with fail
        go_ret2
        refine ⟨?_, HF.out⟩
        rw [HX.out]
        exact ⟨⟨none, rfl⟩, _, _, HR'.out⟩
      | cons d0 s2 =>
        have HX : Hid (X = some (fixE t, s2, k1)) := Lib.hid (by rw [HO2.out, hq])
        have hne : 0 < (d0 :: s2).length := by simp
        have hx2 := str_from (d0 :: s2) 1
        rw [show (d0 :: s2).drop 1 = s2 from rfl] at hx2
        have hl2 : (d0 :: s2).length ≤ 100 := by omega
        generalize d0 :: s2 = s1 at *
        have he := isE_ne hne
        have p4 : (1 : Int) ≤ (s1.length : Int) := by omega
        have hkc := hnd.kind
        have HR2 := Lib.hid (rd_s hr' s2)
        have hg := hnd.lt
        have HF2 : Hid (Fr1 r w2 (w2.setCell ⟨r, 0, none⟩ (S s2))) := Lib.hid ((Fr1.refl r w2).set 0 _)
        have hnr : g ≠ r := fun e => by
          subst e
          obtain ⟨_, _, _, _, h⟩ := hnd.head
          rw [hr'] at h
          injection h with h
          injection h with h _ _
          have := congrArg Array.size h
          simp at this
        have HND := Lib.hid (hnd.fr hr' HF2.out)
        have hkc2 : (w2.setCell ⟨r, 0, none⟩ (S s2)).cell? ⟨g, 0, none⟩ = some (.int .i64 (kd t)) := HND.out.kind
        have HKT : Hid (kd t = kd t) := Lib.hid rfl
        by_cases ht : kd t = 1
        · obtain rfl : t = .emp := kd_emp ht
          change (w2.setCell ⟨r, 0, none⟩ (S s2)).cell? ⟨g, 0, none⟩ = some (.int .i64 1) at hkc2
          clear hr' HO2 hq hnd hkc hne
          go_wp2_with fail
          go_ret2
          refine ⟨?_, ((HF.out.trans HF2.out).alloc _).alloc _⟩
          rw [HX.out]
          exact ⟨_, rfl, ⟨_, nd_new (by rw [World.size_alloc, sz_set]) _, (Lib.alloc_old _ _ _ (by rw [World.size_alloc, sz_set]; exact Nat.lt_succ_self _)).trans (nd_new (by rw [sz_set]) _)⟩, rd_alloc (rd_alloc HR2.out _) _⟩
        · have q6 : (kd t == 1) = false := by simpa using ht
          have HFX : Hid (fixE t = t) := Lib.hid (fix_of ht)
          clear hr' HO2 hq hnd hkc hne
          generalize kd t = K at *
          go_wp2_with fail
          go_ret2
          refine ⟨?_, HF.out.trans HF2.out⟩
          rw [HX.out, HFX.out]
          exact ⟨_, rfl, HND.out, HR2.out⟩
end Go.Proofs.YtchhbnnpannnhaaGreatDoor
