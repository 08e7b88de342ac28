/- The law RegexSays: its walk. Condition: errors.errorType. -/
import Derived.Test.YtchhbnnpannnhaaDoorRegFs
import Derived.Test.YtchhbnnpannnhaaDoorRegK
namespace Go.Proofs.YtchhbnnpannnhaaDoor
open Go.RowKit Go.Lib IntWalk
attribute [local go_sem] byte_at str_app

theorem bad_e {p : List UInt8} {k : Int} (h4 : 12 < p.length → k = 4) (h2 : p.length ≤ 12 → k = 2 ∧ rdR p = none) : parsE p = k := by
  by_cases h : 12 < p.length
  · rw [h4 h]; exact parsE_long h
  · obtain ⟨rfl, hn⟩ := h2 (by omega)
    refine parsE_no (by omega) ?_
    have := rd_par p
    rw [hn] at this
    cases hp : par p with
    | none => rfl
    | some t => rw [hp] at this; exact this.elim
theorem good_e {p : List UInt8} {rt : Rt} (h12 : p.length ≤ 12) (h : rdR p = some rt) : parsE p = 0 ∧ ∃ t, par p = some t ∧ mt rt [] = nul t := by
  have := rd_par p
  rw [h] at this
  cases hp : par p with
  | none => rw [hp] at this; exact this.elim
  | some t => rw [hp] at this; exact ⟨parsE_of h12 hp, t, rfl, mt_nul this⟩
set_option maxRecDepth 100000 in
set_option maxHeartbeats 4000000 in
theorem fitsT_any (rt : Rt) (s : List UInt8) (hs : s.length ≤ 1000) (v : Value) (xs : List N4) (l : List UInt8) (b : Bool) (tp : Nat) (w : World) (hv : NV w 0 v xs) (hr : RepR xs rt tp) :
    Calls Tryd.prog 11 #[PV v l b tp, S s] w fun e w' => e = .returned (.bool (mt rt s)) ∧ Below w.heap.size w w' := by
  have HST := Lib.hid ((Below.refl w.heap.size w).alloc (Nat.le_refl _) (pObj v l b tp))
  have HC := Lib.hid (fits_any rt s hs xs v l b tp tp _ (hv.keep HST.out (Nat.le_refl _)) hr)
  have h1 := heap_alloc_new w (pObj v l b tp)
  obtain ⟨a0, a1, a2, a3, _, _, _, _⟩ := four_at h1
  generalize mt rt s = M at *
  clear hv hr h1
  go_enter Tryd.func11, Tryd.ntmps11
  go_wp2_with fail
  refine HC.out.mono ?_
  rintro e w1 ⟨rfl, hb⟩
  have HB := Lib.hid (HST.out.trans (hb.mono HST.out.size))
  clear hb
  go_wp2_with fail
  go_ret
  exact ⟨rfl, HB.out⟩
end Go.Proofs.YtchhbnnpannnhaaDoor
