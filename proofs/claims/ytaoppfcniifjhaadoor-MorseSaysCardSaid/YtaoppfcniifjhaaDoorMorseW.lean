/- The walks over package morse's Twice and Over. -/
import Derived.Test.YtaoppfcniifjhaaDoorEnds
import Derived.Test.YtaoppfcniifjhaaDoorMorseM
namespace Go.Proofs.YtaoppfcniifjhaaDoor
open Go.RowKit Go.Shelf MorseM
attribute [local go_sem] Oper.semAt_some

set_option maxHeartbeats 400000 in
theorem long1_yes (m : Int) (l : List UInt8) (w : World) (b off : Nat) (hA : w.cell? ⟨b, off, none⟩ = some (S l)) (h : m < (l.length : Int)) :
    Calls Tryd.prog 16 #[.int .i64 m, .slice (some ⟨b, off, none⟩) 1 1] w fun e w' => e = .returned (.iface 36 (.int .i64 4)) ∧ w = w' := by
  go_enter Tryd.func16, Tryd.ntmps16
  go_wp2_with fail
  refine wp_loop_rounds 2 ?_
  rw [rounds_succ]
  go_wp2_with fail
  go_ret
  exact ⟨rfl, rfl⟩
set_option maxHeartbeats 400000 in
theorem long1_no (m : Int) (l : List UInt8) (w : World) (b off : Nat) (hA : w.cell? ⟨b, off, none⟩ = some (S l)) (h : (l.length : Int) ≤ m) :
    Calls Tryd.prog 16 #[.int .i64 m, .slice (some ⟨b, off, none⟩) 1 1] w fun e w' => e = .returned .nilIface ∧ w = w' := by
  go_enter Tryd.func16, Tryd.ntmps16
  go_wp2_with fail
  refine wp_loop_rounds 2 ?_
  rw [rounds_succ]
  go_wp2_with fail
  rw [rounds_succ]
  go_wp2_with fail
  go_ret
  exact ⟨rfl, rfl⟩

theorem str_to (a : List UInt8) (k : Nat) : (ByteArray.mk a.toArray).extract 0 k = ByteArray.mk (a.take k).toArray := by
  rw [Lib.extract_eq]; simp
theorem str_mid (a : List UInt8) (i j : Nat) : (ByteArray.mk a.toArray).extract i j = ByteArray.mk ((a.drop i).take (j - i)).toArray := by
  rw [Lib.extract_eq]
/-- The three results' boxes. -/
def B3 (h : Nat) (a b : Int) (W : World) : Prop := Boxed W h 3 (.int .i64 a) ∧ Boxed W (h + 1) 3 (.int .i64 b) ∧ Boxed W (h + 1 + 1) 25 .nilIface
theorem B3.kept {h : Nat} {a b : Int} {A B : World} {row : Option Nat} (H : B3 h a b A) (hg : A.grownBy B row) (hr : ∀ r, row = some r → ∃ o : Obj, A.heap[r]? = some o ∧ o.isCells = false) : B3 h a b B :=
  ⟨boxed_own (β := Unit) _ _ (fun _ => _) () A B row H.1 hg hr, boxed_own (β := Unit) _ _ (fun _ => _) () A B row H.2.1 hg hr, boxed_own (β := Unit) _ _ (fun _ => _) () A B row H.2.2 hg hr⟩
theorem B3.alloc {h : Nat} {a b : Int} {W : World} (H : B3 h a b W) (o : Obj) : B3 h a b (W.alloc o) := ⟨H.1.alloc _, H.2.1.alloc _, H.2.2.alloc _⟩
theorem B3.drewN {h : Nat} {a b : Int} {W : World} (H : B3 h a b W) (n : Nat) : B3 h a b (W.drewN n) := H
theorem B3.set {h : Nat} {a b : Int} {W : World} (H : B3 h a b W) (a' b' : Int) : B3 h a' b' (((W.setCell ⟨h, 0, none⟩ (.int .i64 a')).setCell ⟨h + 1, 0, none⟩ (.int .i64 b')).setCell ⟨h + 1 + 1, 0, none⟩ .nilIface) :=
  ⟨((H.1.set _).other (by omega) _).other (by omega) _, ((H.2.1.other (by omega) _).set _).other (by omega) _, ((H.2.2.other (by omega) _).other (by omega) _).set _⟩
theorem B3.new (w : World) : B3 w.heap.size 0 0 (((w.alloc (.cells #[.int .i64 0] 3)).alloc (.cells #[.int .i64 0] 3)).alloc (.cells #[.nilIface] 25)) := by
  have h1 := Boxed.new w 3 (.int .i64 0)
  have h2 := Boxed.new (w.alloc (.cells #[.int .i64 0] 3)) 3 (.int .i64 0)
  have h3 := Boxed.new ((w.alloc (.cells #[.int .i64 0] 3)).alloc (.cells #[.int .i64 0] 3)) 25 .nilIface
  rw [World.size_alloc] at h2
  rw [World.size_alloc, World.size_alloc] at h3
  exact ⟨(h1.alloc _).alloc _, h2.alloc _, h3⟩
/-- The world in which the loop begins. -/
def loopW (w : World) (l : List UInt8) : World :=
  (((((w.alloc (.cells #[.int .i64 0] 3)).alloc (.cells #[.int .i64 0] 3)).alloc (.cells #[.nilIface] 25)).alloc (.cells #[S l] 9)).alloc (.cells #[S l] 9))
theorem loopW_size (w : World) (l : List UInt8) : (loopW w l).heap.size = w.heap.size + 1 + 1 + 1 + 1 + 1 := by simp [loopW]
theorem loopW_below (w : World) (l : List UInt8) : Below w.heap.size w (loopW w l) :=
  (((((Below.refl _ w).alloc (Nat.le_refl _) _).alloc (by simp) _).alloc (by simp; omega) _).alloc (by simp; omega) _).alloc (by simp; omega) _
theorem loopW_b3 (w : World) (l : List UInt8) : B3 w.heap.size 0 0 (loopW w l) := ((B3.new w).alloc _).alloc _
end Go.Proofs.YtaoppfcniifjhaaDoor
