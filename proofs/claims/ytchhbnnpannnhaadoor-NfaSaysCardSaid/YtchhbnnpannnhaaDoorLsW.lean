/- Machines in memory: a text, rows of numbers, a row of truths; and package dfa's Check walked. No condition. -/
import Derived.Test.YtchhbnnpannnhaaDoorWords
import Derived.Test.YtchhbnnpannnhaaDoorRegW
import Derived.Test.YtchhbnnpannnhaaDoorAs
import Derived.Test.YtchhbnnpannnhaaDoorLsM
import Derived.IntWalk
import Derived.Laws.IdiomStrings
import Derived.Deep.RegionWith
import Derived.Deep.DrawnRows
import Derived.Lib.SmallJoins
import Derived.StillTailTactics
namespace Go.Proofs.YtchhbnnpannnhaaDoor
open Go.RowKit IntWalk
attribute [local go_sem] byte_at str_app
attribute [local go_sem ↓] Go.wp_at_zero Go.wp_at_succ


/-- A slice that reads as rows of numbers, in blocks below B. -/
def Rws (w : World) (B : Nat) (A : Option Addr) (n : Nat) (L : List (List Int)) : Prop :=
  L.length = n ∧ (0 < n → ∃ b off, A = some ⟨b, off, none⟩ ∧ b < B ∧ ∀ j, j < n → ∃ a m c, w.cell? ⟨b, off + j, none⟩ = some (.slice a m c) ∧ Ints w B a m (ro L j))
/-- A slice that reads as a row of truths. -/
def Bls (w : World) (B : Nat) (A : Option Addr) (n : Nat) (L : List Bool) : Prop :=
  L.length = n ∧ (0 < n → ∃ b off, A = some ⟨b, off, none⟩ ∧ b < B ∧ ∀ j, j < n → w.cell? ⟨b, off + j, none⟩ = some (.bool (bo L j)))
section
variable {w w' : World} {B B' n : Nat} {A : Option Addr} {L : List (List Int)} {T : List Bool}
theorem Rws.at_ (h : Rws w B A n L) {k : Nat} (hk : k < n) : ∃ b off a m c, A = some ⟨b, off, none⟩ ∧ b < B ∧ w.cell? ⟨b, off + k, none⟩ = some (.slice a m c) ∧ Ints w B a m (ro L k) := by
  obtain ⟨b, off, e, hb, hc⟩ := h.2 (by omega)
  obtain ⟨a, m, c, h1, h2⟩ := hc k hk
  exact ⟨b, off, a, m, c, e, hb, h1, h2⟩
theorem Bls.at_ (h : Bls w B A n T) {k : Nat} (hk : k < n) : ∃ b off, A = some ⟨b, off, none⟩ ∧ b < B ∧ w.cell? ⟨b, off + k, none⟩ = some (.bool (bo T k)) := by
  obtain ⟨b, off, e, hb, hc⟩ := h.2 (by omega)
  exact ⟨b, off, e, hb, hc k hk⟩
theorem Rws.keep (h : Rws w B A n L) (hk : ∀ p : Addr, p.block < B → w'.cell? p = w.cell? p) : Rws w' B A n L :=
  ⟨h.1, fun hn => by
    obtain ⟨b, off, e, hb, hc⟩ := h.2 hn
    refine ⟨b, off, e, hb, fun j hj => ?_⟩
    obtain ⟨a, m, c, h1, h2⟩ := hc j hj
    exact ⟨a, m, c, (hk _ hb).trans h1, h2.keep hk⟩⟩
theorem Rws.more (h : Rws w B A n L) (hB : B ≤ B') : Rws w B' A n L :=
  ⟨h.1, fun hn => by
    obtain ⟨b, off, e, hb, hc⟩ := h.2 hn
    refine ⟨b, off, e, by omega, fun j hj => ?_⟩
    obtain ⟨a, m, c, h1, h2⟩ := hc j hj
    exact ⟨a, m, c, h1, h2.more hB⟩⟩
theorem Rws.below (h : Rws w B A n L) (hb : Below B w w') : Rws w' B A n L := h.keep fun _ hp => hb.cell hp
theorem Rws.alloc (h : Rws w B A n L) (hB : B ≤ w.heap.size) (o : Obj) : Rws (w.alloc o) B A n L := h.keep fun p hp => World.cell?_alloc_lt w o p (by omega)
theorem Bls.keep (h : Bls w B A n T) (hk : ∀ p : Addr, p.block < B → w'.cell? p = w.cell? p) : Bls w' B A n T :=
  ⟨h.1, fun hn => by
    obtain ⟨b, off, e, hb, hc⟩ := h.2 hn
    exact ⟨b, off, e, hb, fun j hj => (hk _ hb).trans (hc j hj)⟩⟩
theorem Bls.more (h : Bls w B A n T) (hB : B ≤ B') : Bls w B' A n T :=
  ⟨h.1, fun hn => by
    obtain ⟨b, off, e, hb, hc⟩ := h.2 hn
    exact ⟨b, off, e, by omega, hc⟩⟩
theorem Bls.below (h : Bls w B A n T) (hb : Below B w w') : Bls w' B A n T := h.keep fun _ hp => hb.cell hp
theorem Bls.alloc (h : Bls w B A n T) (hB : B ≤ w.heap.size) (o : Obj) : Bls (w.alloc o) B A n T := h.keep fun p hp => World.cell?_alloc_lt w o p (by omega)
end
/-- A machine's value, and what it reads as. -/
abbrev mcv (sg : List UInt8) (A : Option Addr) (n c : Nat) (A2 : Option Addr) (m c2 : Nat) : Value := .agg #[S sg, .slice A n c, .slice A2 m c2]
structure MacW (w : World) (B : Nat) (A : Option Addr) (n : Nat) (A2 : Option Addr) (m : Nat) (M : Mc) : Prop where
  rows : Rws w B A n M.nx
  tks : Bls w B A2 m M.tk
theorem MacW.below {w w' : World} {B n m : Nat} {A A2 : Option Addr} {M : Mc} (h : MacW w B A n A2 m M) (hb : Below B w w') : MacW w' B A n A2 m M := ⟨h.rows.below hb, h.tks.below hb⟩
theorem MacW.more {w : World} {B B' n m : Nat} {A A2 : Option Addr} {M : Mc} (h : MacW w B A n A2 m M) (hB : B ≤ B') : MacW w B' A n A2 m M := ⟨h.rows.more hB, h.tks.more hB⟩
theorem MacW.n_eq {w : World} {B n m : Nat} {A A2 : Option Addr} {M : Mc} (h : MacW w B A n A2 m M) : M.n = n := h.rows.1
theorem MacW.m_eq {w : World} {B n m : Nat} {A A2 : Option Addr} {M : Mc} (h : MacW w B A n A2 m M) : M.tk.length = m := h.tks.1

theorem mac_cells (w : World) (sg : List UInt8) (A : Option Addr) (n c : Nat) (A2 : Option Addr) (m c2 : Nat) (t : TypeId) : (w.alloc (.cells #[S sg, .slice A n c, .slice A2 m c2] t)).cell? ⟨w.heap.size, 0, none⟩ = some (S sg) ∧ (w.alloc (.cells #[S sg, .slice A n c, .slice A2 m c2] t)).cell? ⟨w.heap.size, 1, none⟩ = some (.slice A n c) ∧ (w.alloc (.cells #[S sg, .slice A n c, .slice A2 m c2] t)).cell? ⟨w.heap.size, 2, none⟩ = some (.slice A2 m c2) :=
  ⟨cell_of_row _ _ 0 _ t (0, 0) (heap_alloc_new w _), cell_of_row _ _ 1 _ t (0, 0) (heap_alloc_new w _), cell_of_row _ _ 2 _ t (0, 0) (heap_alloc_new w _)⟩
theorem wrong_5 {M : Mc} (h : M.n = 0) : M.wrong = 5 := by unfold Mc.wrong; rw [if_pos h]
theorem wrong_4 {M : Mc} (h0 : M.n ≠ 0) (h : 1000 < M.n ∨ 12 < M.s) : M.wrong = 4 := by unfold Mc.wrong; rw [if_neg h0, if_pos h]
theorem wrong_3 {M : Mc} (h0 : M.n ≠ 0) (h : ¬ (1000 < M.n ∨ 12 < M.s)) (h3 : M.tk.length ≠ M.n) : M.wrong = 3 := by unfold Mc.wrong; rw [if_neg h0, if_neg h, if_pos h3]
theorem wrong_6 {M : Mc} (h0 : M.n ≠ 0) (h : ¬ (1000 < M.n ∨ 12 < M.s)) (h3 : ¬ M.tk.length ≠ M.n) (h4 : ¬ riseB M.sg = true) : M.wrong = 6 := by unfold Mc.wrong; rw [if_neg h0, if_neg h, if_neg h3, if_neg h4]
theorem wrong_r {M : Mc} (h0 : M.n ≠ 0) (h : ¬ (1000 < M.n ∨ 12 < M.s)) (h3 : ¬ M.tk.length ≠ M.n) (h4 : riseB M.sg = true) : M.wrong = rowsEM M.n M.s M.nx := by unfold Mc.wrong; rw [if_neg h0, if_neg h, if_neg h3, if_pos h4]
theorem rowsE_cons {n s : Nat} {r : List Int} {l : List (List Int)} : rowsEM n s (r :: l) = if rowEM n s r = 0 then rowsEM n s l else rowEM n s r := rfl

end Go.Proofs.YtchhbnnpannnhaaDoor
