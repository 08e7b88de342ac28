/- nfa.of: where a tree can begin and end, and the pairs of places that follow one another. No condition. -/
import Derived.Test.YtchhbnnpannnhaaDoorNfC
import Derived.Test.YtchhbnnpannnhaaDoorRegW
import Derived.StillTailTactics
import Derived.Deep.RegionWith
namespace Go.Proofs.YtchhbnnpannnhaaDoor
open Go.RowKit Go.Maps
open Go.ChangeMaps (setBlock)
set_option linter.unusedVariables false

/-- Few signs. -/
def Sm (n : Nat) : Pt → Prop
  | .sgn _ k => k < n
  | .alt l r => Sm n l ∧ Sm n r
  | .seq l r => Sm n l ∧ Sm n r
  | .str l => Sm n l
  | _ => True
theorem Sm.of_num : ∀ {t : Pt} {a b n : Nat}, Num t a b → b ≤ n → Sm n t
  | .non, a, b, n, h, hb => trivial
  | .emp, a, b, n, h, hb => trivial
  | .sgn _ k, a, b, n, h, hb => by obtain ⟨h1, h2⟩ := h; show k < n; omega
  | .alt l r, a, b, n, h, hb => by
    obtain ⟨m, h1, h2⟩ := h
    have := h2.len
    exact ⟨Sm.of_num h1 (by omega), Sm.of_num h2 hb⟩
  | .seq l r, a, b, n, h, hb => by
    obtain ⟨m, h1, h2⟩ := h
    have := h2.len
    exact ⟨Sm.of_num h1 (by omega), Sm.of_num h2 hb⟩
  | .str l, a, b, n, h, hb => Sm.of_num (t := l) h hb
theorem nd_at {w : World} {g k : Nat} {c : UInt8} (h : Nd w (.sgn c k) g) : w.cell? ⟨g, 2, none⟩ = some (.int .i64 (k : Int)) := by
  rw [cell_of_row w g 2 _ _ (0, 0) h]; rfl
theorem Nd.grown {w w' : World} {t : Pt} {g b : Nat} (h : Nd w t g) (hg : w.grownBy w' (some b)) (hb : ∀ o t f, w.heap[b]? ≠ some (.cells o t f)) : Nd w' t g :=
  h.keep fun k c a l r g hh => by
    refine hg.block g (Array.getElem?_eq_some_iff.1 hh).1 fun e => ?_
    have e := Option.some.inj e
    subst e
    exact hb _ _ _ hh
theorem MSet.cells {α : Type} {P : Program} {k : TypeId} {enc : α → Value} {ok : α → Prop} {w : World} {b : Nat} {L : List α} (h : MSet P k enc ok w b L) : ∀ o t f, w.heap[b]? ≠ some (.cells o t f) := by
  obtain ⟨_, D, ⟨es, clock, hb, _⟩, _⟩ := h
  intro o t f e
  rw [hb] at e
  cases e
/-- What nfa.of does at a tree. -/
def OfC (t : Pt) : Prop := ∀ (g bn : Nat) (Ln : List (Nat × Nat)) (w : World), Nd w t g → SJ w bn Ln → Sm 64 t →
  Calls Tryd.prog 16 #[.pointer (bl g), .map (some bn)] w fun e w' => ∃ a b, e = .returned (.tuple #[.map (some a), .map (some b)]) ∧ w.heap.size ≤ a ∧ w.heap.size ≤ b ∧ SI w' a (fsP t) ∧ SI w' b (lsP t) ∧ SJ w' bn (Ln ++ prP t) ∧ w.grownBy w' (some bn)
theorem two_maps (w : World) : SI ((w.alloc (.map #[] 0)).alloc (.map #[] 0)) w.heap.size [] ∧ SI ((w.alloc (.map #[] 0)).alloc (.map #[] 0)) (w.heap.size + 1) [] := by
  refine ⟨(MSet.made Tryd.prog 3 eI okI w).alloc _, ?_⟩
  have h := MSet.made Tryd.prog 3 eI okI (w.alloc (.map #[] 0))
  rw [World.size_alloc] at h
  exact h
set_option maxRecDepth 100000 in
set_option maxHeartbeats 4000000 in
theorem of_emp (t : Pt) (ht : t = .emp ∨ t = .non) : OfC t := by
  intro g bn Ln w h hn hsm
  have k0 := h.kind
  have hk : kd t = 0 ∨ kd t = 1 := by rcases ht with rfl | rfl <;> simp [kd]
  have e1 : fsP t = [] ∧ lsP t = [] ∧ prP t = [] := by rcases ht with rfl | rfl <;> exact ⟨rfl, rfl, rfl⟩
  have hmm := @run_makeMap Tryd.prog
  have HN := Lib.hid hn
  have hnl := hn.lt
  rw [e1.1, e1.2.1, e1.2.2]
  have kb : ∀ o, (w.alloc o).cell? ⟨g, 0, none⟩ = some (.int .i64 (kd t)) := fun o => (World.cell?_of_block (w := w) (Below.heap_alloc _ _ _ h.lt)).trans k0
  generalize kd t = kt at *
  clear h hn hsm e1 ht k0
  have k1 : (kt : Int) ≠ 2 := by omega
  have k2 : (kt : Int) ≠ 3 := by omega
  have k3 : (kt : Int) ≠ 4 := by omega
  have k4 : (kt : Int) ≠ 5 := by omega
  go_enter Tryd.func16, Tryd.ntmps16
  go_wp2_with fail
  go_ret2
  have h2 := two_maps (w.alloc (.cells #[.map (some bn)] 50))
  rw [World.size_alloc] at h2
  exact ⟨_, _, rfl, by omega, by omega, h2.1, h2.2, by rw [List.append_nil]; exact ((HN.out.alloc _).alloc _).alloc _, ((World.grownBy_alloc w _ _).trans (World.grownBy_alloc _ _ _)).trans (World.grownBy_alloc _ _ _)⟩
/-- A map with one key. -/
abbrev mOne (k : Nat) : Obj := .map #[⟨eI k, .bool true, 0⟩] 1
theorem run_put1 (w : World) (b k : Nat) (hk : k < 64) (hb : w.heap[b]? = some (.map #[] 0)) :
    (Instr.mapUpdate 51 (.map (some b)) (eI k) (.bool true)).run Tryd.prog w = .ok () (setBlock w b (mOne k)) := by
  obtain ⟨kl, hkl⟩ := keyI.read k hk
  rcases lawI.find w hkl [] (by simp) with ⟨h1, _⟩ | ⟨j, e, _, h2, _⟩
  · simp [Instr.mapUpdate, run_underlying Tryd.underlying51, MapKept.run_getObj_map hb, lawI.check w false hkl, h1, MapKept.run_setObj_map _ hb, Result.andThen, setBlock]
  · simp at h2
theorem setBlock_last (w : World) (o o' : Obj) : setBlock (w.alloc o) w.heap.size o' = w.alloc o' := by
  have : (w.heap.push o).setIfInBounds w.heap.size o' = w.heap.push o' := by
    apply Array.ext_getElem?
    intro i
    rw [Array.getElem?_setIfInBounds, Array.getElem?_push, Array.getElem?_push]
    by_cases h : w.heap.size = i
    · subst h; simp
    · rw [if_neg h, if_neg (Ne.symm h), if_neg (Ne.symm h)]
  unfold setBlock World.alloc
  simp [this]
theorem setBlock_before (w : World) (o o' p : Obj) : setBlock ((w.alloc o).alloc p) w.heap.size o' = (w.alloc o').alloc p := by
  have : ((w.heap.push o).push p).setIfInBounds w.heap.size o' = (w.heap.push o').push p := by
    apply Array.ext_getElem?
    intro i
    rw [Array.getElem?_setIfInBounds]
    by_cases h : w.heap.size = i
    · subst h; simp [Array.getElem?_push]; omega
    · rw [if_neg h]
      simp only [Array.getElem?_push, Array.size_push]
      simp [Ne.symm h]
  unfold setBlock World.alloc
  simp [this]
theorem put_last (w : World) (k : Nat) (hk : k < 64) : (Instr.mapUpdate 51 (.map (some w.heap.size)) (eI k) (.bool true)).run Tryd.prog (w.alloc (.map #[] 0)).drew = .ok () (w.alloc (mOne k)).drew := by
  rw [run_put1 (w.alloc (.map #[] 0)).drew _ k hk (heap_alloc_new w (.map #[] 0))]
  exact congrArg (fun z : World => Result.ok () z.drew) (setBlock_last w (.map #[] 0) (mOne k))
theorem put_before (w : World) (k : Nat) (hk : k < 64) (o : Obj) : (Instr.mapUpdate 51 (.map (some w.heap.size)) (eI k) (.bool true)).run Tryd.prog ((w.alloc (.map #[] 0)).alloc o).drew = .ok () ((w.alloc (mOne k)).alloc o).drew := by
  rw [run_put1 ((w.alloc (.map #[] 0)).alloc o).drew _ k hk ((Below.heap_alloc (w.alloc (.map #[] 0)) o _ (by simp)).trans (heap_alloc_new w (.map #[] 0)))]
  exact congrArg (fun z : World => Result.ok () z.drew) (setBlock_before w (.map #[] 0) (mOne k) o)
theorem one_set (w : World) (b k : Nat) (hk : k < 64) (hb : w.heap[b]? = some (mOne k)) : SI w b [k] := by
  obtain ⟨w', hrun, h1, _⟩ := (MSet.made Tryd.prog 3 eI okI w).update keyI Tryd.underlying51 k hk
  rw [run_put1 _ _ k hk (heap_alloc_new w (.map #[] 0))] at hrun
  injection hrun with _ hrun
  subst hrun
  rw [setBlock_last] at h1
  exact h1.block (hb.trans (heap_alloc_new w (mOne k)).symm)
theorem grown_drew {w w' : World} {row : Option Nat} (h : w.grownBy w' row) : w.grownBy w'.drew row := ⟨h.os, h.tape, h.output, h.size, h.block⟩
set_option maxRecDepth 100000 in
set_option maxHeartbeats 4000000 in
theorem of_sgn (c : UInt8) (k : Nat) : OfC (.sgn c k) := by
  intro g bn Ln w h hn hsm
  have hk64 : k < 64 := hsm
  have k0 := h.kind
  have k2 := nd_at h
  have hmm := @run_makeMap Tryd.prog
  have HN := Lib.hid hn
  have hnl := hn.lt
  have kb : ∀ o, (w.alloc o).cell? ⟨g, 0, none⟩ = some (.int .i64 2) := fun o => (World.cell?_of_block (w := w) (Below.heap_alloc _ _ _ h.lt)).trans k0
  go_enter Tryd.func16, Tryd.ntmps16
  go_upto_region 4 with fail
  have hz : (w.alloc (.cells #[.map (some bn)] 50)).heap.size = w.heap.size + 1 := by simp
  have kc2 : (w.alloc (.cells #[.map (some bn)] 50)).cell? ⟨g, 2, none⟩ = some (.int .i64 (k : Int)) := (World.cell?_of_block (w := w) (Below.heap_alloc _ _ _ h.lt)).trans k2
  have hgl := h.lt
  generalize hW : w.alloc (.cells #[.map (some bn)] 50) = W at *
  have HW : Hid (SJ W bn Ln ∧ w.grownBy W (some bn) ∧ w.heap.size ≤ W.heap.size) := by
    subst hW
    exact ⟨HN.out.alloc _, World.grownBy_alloc w _ _, by simp⟩
  clear hW hn hsm
  have hgW : g < W.heap.size := by omega
  have q1 : ∀ o, (W.alloc o).cell? ⟨g, 2, none⟩ = some (.int .i64 (k : Int)) := fun o => (World.cell?_of_block (w := W) (Below.heap_alloc _ _ _ hgW)).trans kc2
  have q2 : ∀ o o', ((W.alloc o).alloc o').cell? ⟨g, 2, none⟩ = some (.int .i64 (k : Int)) := fun o o' => (World.cell?_of_block (w := W.alloc o) (Below.heap_alloc _ _ _ (by rw [World.size_alloc]; exact Nat.lt_succ_of_lt hgW))).trans (q1 o)
  have p1 := put_last W k hk64
  have p2 := put_before W k hk64
  have p3 := fun o => put_last (W.alloc o) k hk64
  simp only [World.size_alloc] at p3
  clear h kb k0 k2 hz
  go_region
  all_goals
    have hT : ∀ b, b = W.heap.size ∨ b = W.heap.size + 1 → ((W.alloc (mOne k)).alloc (mOne k)).drew.heap[b]? = some (mOne k) := by
      rintro b (rfl | rfl)
      · exact (Below.heap_alloc (W.alloc (mOne k)) (mOne k) _ (by simp)).trans (heap_alloc_new W (mOne k))
      · have h := heap_alloc_new (W.alloc (mOne k)) (mOne k)
        rw [World.size_alloc] at h
        exact h
    have HT := Lib.hid hT
    clear hT
    go_wp2_with fail
    go_ret2
    have hT := HT.out
    refine ⟨_, _, rfl, ?_, ?_, one_set _ _ k hk64 ?_, one_set _ _ k hk64 ?_, ?_, ?_⟩
    · have := HW.out.2.2; omega
    · have := HW.out.2.2; omega
    · first | exact hT _ (.inl rfl) | exact hT _ (.inr rfl)
    · first | exact hT _ (.inl rfl) | exact hT _ (.inr rfl)
    · show SJ _ bn (Ln ++ [])
      rw [List.append_nil]
      exact ((HW.out.1.alloc (mOne k)).alloc (mOne k)).block rfl
    · exact grown_drew (HW.out.2.1.trans ((World.grownBy_alloc W (mOne k) _).trans (World.grownBy_alloc (W.alloc (mOne k)) (mOne k) _)))
end Go.Proofs.YtchhbnnpannnhaaDoor
