/- Patterns in memory; package re's Null and the reader's steps. No condition. -/
import Derived.Test.YtchhbnnpannnhaaDoorWords
import Derived.Test.YtchhbnnpannnhaaDoorAs
import Derived.Test.YtchhbnnpannnhaaDoorRegR
namespace Go.Proofs.YtchhbnnpannnhaaDoor
open Go.RowKit IntWalk
attribute [local go_sem] byte_at str_app

abbrev S (l : List UInt8) : Value := .string ⟨l.toArray⟩
theorem str_from (a : List UInt8) (k : Nat) : (ByteArray.mk a.toArray).extract k a.length = ByteArray.mk (a.drop k).toArray := by
  apply ByteArray.ext; simp [List.take_of_length_le]
theorem str_to (a : List UInt8) (k : Nat) : (ByteArray.mk a.toArray).extract 0 k = ByteArray.mk (a.take k).toArray := by
  apply ByteArray.ext; simp
set_option maxHeartbeats 400000 in
theorem long1_yes (m : Int) (l : List UInt8) (w : World) (b off : Nat) (hA : w.cell? ⟨b, off, none⟩ = some (S l)) (h : m < (l.length : Int)) :
    Calls Tryd.prog 22 #[.int .i64 m, .slice (some ⟨b, off, none⟩) 1 1] w fun e w' => e = .returned (.iface 62 (.int .i64 4)) ∧ w = w' := by
  go_enter Tryd.func22, Tryd.ntmps22
  go_wp2_with fail
  refine wp_loop_rounds 2 ?_
  rw [rounds_succ]
  go_wp2_with fail
  go_ret
  exact ⟨rfl, rfl⟩
set_option maxHeartbeats 400000 in
theorem long1_no (m : Int) (l : List UInt8) (w : World) (b off : Nat) (hA : w.cell? ⟨b, off, none⟩ = some (S l)) (h : (l.length : Int) ≤ m) :
    Calls Tryd.prog 22 #[.int .i64 m, .slice (some ⟨b, off, none⟩) 1 1] w fun e w' => e = .returned .nilIface ∧ w = w' := by
  go_enter Tryd.func22, Tryd.ntmps22
  go_wp2_with fail
  refine wp_loop_rounds 2 ?_
  rw [rounds_succ]
  go_wp2_with fail
  rw [rounds_succ]
  go_wp2_with fail
  go_ret
  exact ⟨rfl, rfl⟩

/-- A node, and the reader. -/
abbrev nObj (k : Int) (c : UInt8) (a : Int) (l r : Option Addr) : Obj := .cells #[.int .i64 k, .int .u8 (c.toNat : Int), .int .i64 a, .pointer l, .pointer r] 83
abbrev rObj (s : List UInt8) (k : Nat) : Obj := .cells #[S s, .int .i64 (k : Int)] 78
abbrev bl (g : Nat) : Option Addr := some ⟨g, 0, none⟩
/-- Block g is the root of a pattern's tree. -/
def Nd (w : World) : Pt → Nat → Prop
  | .non, g => w.heap[g]? = some (nObj 0 0 0 none none)
  | .emp, g => w.heap[g]? = some (nObj 1 0 0 none none)
  | .sgn c k, g => w.heap[g]? = some (nObj 2 c (k : Int) none none)
  | .alt l r, g => ∃ a b, w.heap[g]? = some (nObj 3 0 0 (bl a) (bl b)) ∧ Nd w l a ∧ Nd w r b
  | .seq l r, g => ∃ a b, w.heap[g]? = some (nObj 4 0 0 (bl a) (bl b)) ∧ Nd w l a ∧ Nd w r b
  | .str l, g => ∃ a, w.heap[g]? = some (nObj 5 0 0 (bl a) none) ∧ Nd w l a
def kd : Pt → Int
  | .non => 0
  | .emp => 1
  | .sgn _ _ => 2
  | .alt _ _ => 3
  | .seq _ _ => 4
  | .str _ => 5
theorem Nd.head {w : World} {t : Pt} {g : Nat} (h : Nd w t g) : ∃ c a l r, w.heap[g]? = some (nObj (kd t) c a l r) := by
  cases t with
  | non => exact ⟨_, _, _, _, h⟩
  | emp => exact ⟨_, _, _, _, h⟩
  | sgn c k => exact ⟨_, _, _, _, h⟩
  | alt l r => obtain ⟨a, b, h, _⟩ := h; exact ⟨_, _, _, _, h⟩
  | seq l r => obtain ⟨a, b, h, _⟩ := h; exact ⟨_, _, _, _, h⟩
  | str l => obtain ⟨a, h, _⟩ := h; exact ⟨_, _, _, _, h⟩
theorem Nd.lt {w : World} {t : Pt} {g : Nat} (h : Nd w t g) : g < w.heap.size := by
  obtain ⟨_, _, _, _, h⟩ := h.head
  exact (Array.getElem?_eq_some_iff.1 h).1
theorem Nd.kind {w : World} {t : Pt} {g : Nat} (h : Nd w t g) : w.cell? ⟨g, 0, none⟩ = some (.int .i64 (kd t)) := by
  obtain ⟨_, _, _, _, h⟩ := h.head
  rw [cell_of_row w g 0 _ _ (0, 0) h]; rfl
theorem Nd.keep {w w' : World} : ∀ {t : Pt} {g : Nat}, Nd w t g → (∀ (k : Int) (c : UInt8) (a : Int) (l r : Option Addr) (g : Nat), w.heap[g]? = some (nObj k c a l r) → w'.heap[g]? = w.heap[g]?) → Nd w' t g
  | .non, g, h, hk => (hk _ _ _ _ _ _ h).trans h
  | .emp, g, h, hk => (hk _ _ _ _ _ _ h).trans h
  | .sgn _ _, g, h, hk => (hk _ _ _ _ _ _ h).trans h
  | .alt l r, g, h, hk => by
    obtain ⟨a, b, h, h1, h2⟩ := h
    exact ⟨a, b, (hk _ _ _ _ _ _ h).trans h, Nd.keep h1 hk, Nd.keep h2 hk⟩
  | .seq l r, g, h, hk => by
    obtain ⟨a, b, h, h1, h2⟩ := h
    exact ⟨a, b, (hk _ _ _ _ _ _ h).trans h, Nd.keep h1 hk, Nd.keep h2 hk⟩
  | .str l, g, h, hk => by
    obtain ⟨a, h, h1⟩ := h
    exact ⟨a, (hk _ _ _ _ _ _ h).trans h, Nd.keep h1 hk⟩
theorem Nd.below {w w' : World} {t : Pt} {g : Nat} (h : Nd w t g) (hb : Below w.heap.size w w') : Nd w' t g :=
  h.keep fun _ _ _ _ _ _ e => hb.block _ (Array.getElem?_eq_some_iff.1 e).1
/-- All but block r is as it was. -/
structure Fr1 (r : Nat) (w w' : World) : Prop where
  os : w'.os = w.os
  tape : w'.tape = w.tape
  output : w'.output = w.output
  size : w.heap.size ≤ w'.heap.size
  block : ∀ b, b < w.heap.size → b ≠ r → w'.heap[b]? = w.heap[b]?
theorem Fr1.refl (r : Nat) (w : World) : Fr1 r w w := ⟨rfl, rfl, rfl, Nat.le_refl _, fun _ _ _ => rfl⟩
theorem Fr1.trans {r : Nat} {a b c : World} (h : Fr1 r a b) (k : Fr1 r b c) : Fr1 r a c :=
  ⟨k.os.trans h.os, k.tape.trans h.tape, k.output.trans h.output, Nat.le_trans h.size k.size, fun i hi hr => (k.block i (Nat.lt_of_lt_of_le hi h.size) hr).trans (h.block i hi hr)⟩
theorem Fr1.of {r : Nat} {a b : World} (h : Below a.heap.size a b) : Fr1 r a b := ⟨h.os, h.tape, h.output, h.size, fun k hk _ => h.block k hk⟩
theorem Fr1.alloc {r : Nat} {a b : World} (h : Fr1 r a b) (o : Obj) : Fr1 r a (b.alloc o) := h.trans (.of ((Below.refl _ b).alloc (Nat.le_refl _) o))
theorem Fr1.set {r : Nat} {a b : World} (h : Fr1 r a b) (i : Nat) (v : Value) : Fr1 r a (b.setCell ⟨r, i, none⟩ v) :=
  h.trans ⟨rfl, rfl, rfl, by simp [World.setCell], fun k _ hk => Below.heap_setCell _ _ _ _ hk⟩
theorem Fr1.below {r B : Nat} {a b : World} (h : Fr1 r a b) (hr : B ≤ r) (hB : B ≤ a.heap.size) : Below B a b :=
  ⟨h.os, h.tape, h.output, h.size, fun k hk => h.block k (by omega) (by omega)⟩
theorem Nd.fr {w w' : World} {t : Pt} {g r k : Nat} {s : List UInt8} (h : Nd w t g) (hr : w.heap[r]? = some (rObj s k)) (hf : Fr1 r w w') : Nd w' t g :=
  h.keep fun _ _ _ _ _ x e => hf.block _ (Array.getElem?_eq_some_iff.1 e).1 (fun ex => by
    subst ex
    rw [hr] at e
    injection e with e
    injection e with e _ _
    have := congrArg Array.size e
    simp at this)
/-- What the reader's block holds. -/
theorem rd_cells {w : World} {r k : Nat} {s : List UInt8} (h : w.heap[r]? = some (rObj s k)) : w.cell? ⟨r, 0, none⟩ = some (S s) ∧ w.cell? ⟨r, 1, none⟩ = some (.int .i64 (k : Int)) ∧ w.frozen? ⟨r, 0, none⟩ = false ∧ w.frozen? ⟨r, 1, none⟩ = false :=
  ⟨by rw [cell_of_row w r 0 _ _ (0, 0) h]; rfl, by rw [cell_of_row w r 1 _ _ (0, 0) h]; rfl, Lib.frozen_of_heap h 0, Lib.frozen_of_heap h 1⟩
theorem rd_s {w : World} {r k : Nat} {s : List UInt8} (h : w.heap[r]? = some (rObj s k)) (s' : List UInt8) : (w.setCell ⟨r, 0, none⟩ (S s')).heap[r]? = some (rObj s' k) := by
  simp [World.setCell, Array.getElem?_modify, h]
theorem rd_k {w : World} {r k : Nat} {s : List UInt8} (h : w.heap[r]? = some (rObj s k)) (k' : Nat) : (w.setCell ⟨r, 1, none⟩ (.int .i64 (k' : Int))).heap[r]? = some (rObj s k') := by
  simp [World.setCell, Array.getElem?_modify, h]
theorem rd_alloc {w : World} {r k : Nat} {s : List UInt8} (h : w.heap[r]? = some (rObj s k)) (o : Obj) : (w.alloc o).heap[r]? = some (rObj s k) :=
  (Lib.alloc_old w o r (Array.getElem?_eq_some_iff.1 h).1).trans h
set_option maxRecDepth 100000 in
set_option maxHeartbeats 1000000 in
theorem null_any : ∀ (t : Pt) (g : Nat) (w : World), Nd w t g → Calls Tryd.prog 23 #[.pointer (bl g)] w fun e w' => e = .returned (.bool (nul t)) ∧ w = w'
  | .non, g, w, h => by
    have k0 := h.kind
    change w.cell? ⟨g, 0, none⟩ = some (.int .i64 0) at k0
    go_enter Tryd.func23, Tryd.ntmps23
    go_wp2_with fail
    go_ret
    exact ⟨rfl, rfl⟩
  | .emp, g, w, h => by
    have k0 := h.kind
    change w.cell? ⟨g, 0, none⟩ = some (.int .i64 1) at k0
    go_enter Tryd.func23, Tryd.ntmps23
    go_wp2_with fail
    go_ret
    exact ⟨rfl, rfl⟩
  | .sgn c k, g, w, h => by
    have k0 := h.kind
    change w.cell? ⟨g, 0, none⟩ = some (.int .i64 2) at k0
    go_enter Tryd.func23, Tryd.ntmps23
    go_wp2_with fail
    go_ret
    exact ⟨rfl, rfl⟩
  | .str l, g, w, h => by
    have k0 := h.kind
    change w.cell? ⟨g, 0, none⟩ = some (.int .i64 5) at k0
    go_enter Tryd.func23, Tryd.ntmps23
    go_wp2_with fail
    go_ret
    exact ⟨rfl, rfl⟩
  | .alt l r, g, w, h => by
    have k0 := h.kind
    change w.cell? ⟨g, 0, none⟩ = some (.int .i64 3) at k0
    obtain ⟨a, b, h0, h1, h2⟩ := h
    have k3 : w.cell? ⟨g, 3, none⟩ = some (.pointer (some ⟨a, 0, none⟩)) := by rw [cell_of_row w g 3 _ _ (0, 0) h0]; rfl
    have k4 : w.cell? ⟨g, 4, none⟩ = some (.pointer (some ⟨b, 0, none⟩)) := by rw [cell_of_row w g 4 _ _ (0, 0) h0]; rfl
    have HL := Lib.hid (null_any l a w h1)
    have HR := Lib.hid (null_any r b w h2)
    have HN : Hid (nul (.alt l r) = (nul l || nul r)) := Lib.hid rfl
    generalize nul (.alt l r) = n at *
    generalize nul l = n1 at *
    generalize nul r = n2 at *
    clear h0 h1 h2
    go_enter Tryd.func23, Tryd.ntmps23
    cases n1
    · go_wp2_with fail
      refine HL.out.mono ?_
      rintro e w' ⟨rfl, rfl⟩
      go_wp2_with fail
      refine HR.out.mono ?_
      rintro e w' ⟨rfl, rfl⟩
      go_wp2_with fail
      go_ret
      exact ⟨by rw [HN.out]; rfl, rfl⟩
    · go_wp2_with fail
      refine HL.out.mono ?_
      rintro e w' ⟨rfl, rfl⟩
      go_wp2_with fail
      go_ret
      exact ⟨by rw [HN.out]; rfl, rfl⟩
  | .seq l r, g, w, h => by
    have k0 := h.kind
    change w.cell? ⟨g, 0, none⟩ = some (.int .i64 4) at k0
    obtain ⟨a, b, h0, h1, h2⟩ := h
    have k3 : w.cell? ⟨g, 3, none⟩ = some (.pointer (some ⟨a, 0, none⟩)) := by rw [cell_of_row w g 3 _ _ (0, 0) h0]; rfl
    have k4 : w.cell? ⟨g, 4, none⟩ = some (.pointer (some ⟨b, 0, none⟩)) := by rw [cell_of_row w g 4 _ _ (0, 0) h0]; rfl
    have HL := Lib.hid (null_any l a w h1)
    have HR := Lib.hid (null_any r b w h2)
    have HN : Hid (nul (.seq l r) = (nul l && nul r)) := Lib.hid rfl
    generalize nul (.seq l r) = n at *
    generalize nul l = n1 at *
    generalize nul r = n2 at *
    clear h0 h1 h2
    go_enter Tryd.func23, Tryd.ntmps23
    cases n1
    · go_wp2_with fail
      refine HL.out.mono ?_
      rintro e w' ⟨rfl, rfl⟩
      go_wp2_with fail
      go_ret
      exact ⟨by rw [HN.out]; rfl, rfl⟩
    · go_wp2_with fail
      refine HL.out.mono ?_
      rintro e w' ⟨rfl, rfl⟩
      go_wp2_with fail
      refine HR.out.mono ?_
      rintro e w' ⟨rfl, rfl⟩
      go_wp2_with fail
      go_ret
      exact ⟨by rw [HN.out]; rfl, rfl⟩
end Go.Proofs.YtchhbnnpannnhaaDoor
