/- package desk's line, at any text. Condition: as of its verbs. -/
import Derived.Test.YteoofkinmilckaaGreatDoorDeskV
namespace Go.Proofs.YteoofkinmilckaaGreatDoor
open Go.RowKit Go.Shelf IntWalk
attribute [local go_sem] byte_at str_app
attribute [local go_sem ↓] Go.wp_at_zero Go.wp_at_succ

/-- What the words of a line do, and are answered. -/
def ansW (s : BS) : List (List UInt8) → BS × List UInt8
  | [] => (s, badM)
  | a :: r => if a = [112, 117, 116] then (match r with
      | [x, y] => (match numD x with
        | none => (s, badM)
        | some n => ((putS s n y).2, toldM (putS s n y).1))
      | _ => (s, badM)) else if a = [99, 117, 116] then (match r with
      | [x, y] => (match numD x with
        | none => (s, badM)
        | some n => (match numD y with
          | none => (s, badM)
          | some k => ((cutS s n k).2, toldM (cutS s n k).1)))
      | _ => (s, badM)) else if a = [110, 111, 119] then (match r with
      | [] => (s, s.now ++ [46])
      | _ => (s, badM)) else if a = [102, 105, 110, 100] then (match r with
      | [x] => (s, findA s.now x)
      | _ => (s, badM)) else if a = [99, 114, 97, 115, 104] then (match r with
      | [x] => (match numD x with
        | none => (s, badM)
        | some n => crashA s n)
      | _ => (s, badM)) else (s, badM)
def answerD (s : BS) (l : List UInt8) : BS × List UInt8 := ansW s (splitL l)
theorem verbs_made (w : World) : ∃ m1 m2 m3 m4 m5, (Instr.mapUpdate 89 (.map (some w.heap.size)) (.string ⟨#[112, 117, 116]⟩) (.agg #[.int .i64 2, .int .i64 1, .func (.func 54) #[] #[]])).run Tryz.prog (w.alloc (.map #[] 0)) = .ok () m1 ∧ (Instr.mapUpdate 89 (.map (some w.heap.size)) (.string ⟨#[99, 117, 116]⟩) (.agg #[.int .i64 2, .int .i64 2, .func (.func 55) #[] #[]])).run Tryz.prog m1 = .ok () m2 ∧ (Instr.mapUpdate 89 (.map (some w.heap.size)) (.string ⟨#[110, 111, 119]⟩) (.agg #[.int .i64 0, .int .i64 0, .func (.func 56) #[] #[]])).run Tryz.prog m2 = .ok () m3 ∧ (Instr.mapUpdate 89 (.map (some w.heap.size)) (.string ⟨#[102, 105, 110, 100]⟩) (.agg #[.int .i64 1, .int .i64 0, .func (.func 57) #[] #[]])).run Tryz.prog m3 = .ok () m4 ∧ (Instr.mapUpdate 89 (.map (some w.heap.size)) (.string ⟨#[99, 114, 97, 115, 104]⟩) (.agg #[.int .i64 1, .int .i64 1, .func (.func 58) #[] #[]])).run Tryz.prog m4 = .ok () m5 ∧ m5 = w.alloc (.map verbs.toArray 5) :=
  ⟨_, _, _, _, _, ins_run w #[] 0 [112, 117, 116] _ rfl, ins_run w _ 1 [99, 117, 116] _ (by rfl), ins_run w _ 2 [110, 111, 119] _ (by rfl), ins_run w _ 3 [102, 105, 110, 100] _ (by rfl), ins_run w _ 4 [99, 114, 97, 115, 104] _ (by rfl), rfl⟩
theorem store_fn (W : World) (a b c v : Value) (hv : v.oneCell' = true) : (store ⟨W.heap.size, 2, none⟩ v).run Tryz.prog (W.alloc (.cells #[a, b, c] 88)) = .ok () (W.alloc (.cells #[a, b, v] 88)) := by
  rw [run_store _ _ _ _ _ hv]
  simp [World.setCell_alloc_new]
/-- The desk in memory, and what the library's variables hold. -/
structure Ctx (F : Nat → Option Obj) (B db bk : Nat) (s : BS) (w : World) : Prop where
  hF : F db = some (dObj bk)
  hk : Bks F B bk s w
  ht : TG w
  hm : ML w
  he : EV w
  hg : HG w
  hs : Smalls s
  hB : B ≤ w.heap.size
  hd : B ≤ db
  h0 : 4 < B
  h1 : 1 < B
  h3 : 2 < B
  h4 : 3 < B
  h5 : 0 < B
theorem Ctx.below {F : Nat → Option Obj} {B db bk : Nat} {s : BS} {w w' : World} (h : Ctx F B db bk s w) (hb : Below w.heap.size w w') : Ctx F B db bk s w' where
  hF := h.hF
  hk := h.hk.below hb
  ht := h.ht.keep (hb.mono h.hB) h.h0
  hm := h.hm.below (hb.mono h.hB) h.h1
  he := h.he.keep (hb.mono h.hB) h.h3 h.h4
  hg := h.hg.keep (hb.mono h.hB) h.h5
  hs := h.hs
  hB := Nat.le_trans h.hB hb.size
  hd := h.hd
  h0 := h.h0
  h1 := h.h1
  h3 := h.h3
  h4 := h.h4
  h5 := h.h5
/-- How a line ends. -/
def Res (F : Nat → Option Obj) (B db : Nat) (w : World) (R : BS × List UInt8) (e : Ending) (w' : World) : Prop :=
  e = .returned (S R.2) ∧ (∃ bk', Bks (upd F db (dObj bk')) B bk' R.1 w') ∧ Below B w w'
theorem Ctx.same {F : Nat → Option Obj} {B db bk : Nat} {s : BS} {w w' : World} (h : Ctx F B db bk s w) (hb : Below w.heap.size w w') {x : List UInt8} {e : Ending} (he : e = .returned (S x)) : Res F B db w (s, x) e w' :=
  ⟨he, ⟨bk, by rw [upd_same h.hF]; exact h.hk.below hb⟩, hb.mono h.hB⟩
/-- A block more that is not the book's. -/
theorem Bk.more {F : Nat → Option Obj} {B b many g : Nat} {now txt : List UInt8} {og : Obj} {w w' : World} (h : Bk F B b now txt many w) (hb : Below w.heap.size w w') (hg : w'.heap[g]? = some og) (hge : w.heap.size ≤ g) : Bk (upd F g og) B b now txt many w' := by
  refine h.refence (Nat.le_refl _) (fun k o _ _ hw _ => (hb.block k (Array.getElem?_eq_some_iff.1 hw).1).trans hw) (fun k o hk => ?_)
  by_cases e : k = g
  · subst e; rw [upd_self] at hk; obtain rfl := Option.some.inj hk; exact ⟨hg, .inr (.inl hge)⟩
  · rw [upd_ne e] at hk
    have := h.frame hk
    exact ⟨(hb.block k (Array.getElem?_eq_some_iff.1 this).1).trans this, .inr (.inr ⟨o, hk⟩)⟩
theorem upd_less {F : Nat → Option Obj} {d g : Nat} {o1 og : Obj} (hg : F g = none) (k : Nat) (o : Obj) (h : upd F d o1 k = some o) : upd (upd F g og) d o1 k = some o := by
  by_cases e : k = d
  · subst e; rw [upd_self] at h ⊢; exact h
  · rw [upd_ne e] at h ⊢
    rw [upd_ne (fun e' => by subst e'; rw [hg] at h; cases h)]
    exact h
theorem lookV_none {s : BS} {a : List UInt8} {r : List (List UInt8)} (h : lookV a = none) : ansW s (a :: r) = (s, badM) := by
  unfold lookV at h
  unfold ansW
  by_cases h0 : a = [112, 117, 116]
  · rw [if_pos h0] at h; cases h
  show (if a = [112, 117, 116] then _ else _) = _
  rw [if_neg h0] at h ⊢
  by_cases h1 : a = [99, 117, 116]
  · rw [if_pos h1] at h; cases h
  rw [if_neg h1] at h ⊢
  by_cases h2 : a = [110, 111, 119]
  · rw [if_pos h2] at h; cases h
  rw [if_neg h2] at h ⊢
  by_cases h3 : a = [102, 105, 110, 100]
  · rw [if_pos h3] at h; cases h
  rw [if_neg h3] at h ⊢
  by_cases h4 : a = [99, 114, 97, 115, 104]
  · rw [if_pos h4] at h; cases h
  rw [if_neg h4] at h ⊢

set_option maxRecDepth 100000 in
set_option maxHeartbeats 4000000 in
theorem line_none (F : Nat → Option Obj) (B db bk : Nat) (s : BS) (l : List UInt8) (a : List UInt8) (r : List (List UInt8)) (w : World) (h : Ctx F B db bk s w) (hl : l.length ≤ 3000) (hws : splitL l = a :: r) (hv : lookV a = none) :
    Calls Tryz.prog 32 #[.pointer (some ⟨db, 0, none⟩), S l] w fun e w' => Res F B db w ((s, badM)) e w' := by
  obtain ⟨m1, m2, m3, m4, m5, i1, i2, i3, i4, i5, hm5⟩ := verbs_made w
  have hB5 : Below w.heap.size w m5 := by rw [hm5]; exact (Below.refl _ w).alloc (Nat.le_refl _) _
  have hmb : m5.heap[w.heap.size]? = some (.map verbs.toArray 5) := by rw [hm5]; exact heap_alloc_new w _
  have hmlt : w.heap.size < m5.heap.size := by rw [hm5]; simp
  have HC := Lib.hid h
  have HSP := Lib.hid (split_gen l m5 (h.hm.below (hB5.mono h.hB) h.h1) (by omega))
  rw [hws] at HSP
  have HB5 := Lib.hid hB5
  clear h hws hm5 hB5
  have hmm : (Instr.makeMap 89 none).run Tryz.prog w = .ok (.map (some w.heap.size)) (w.alloc (.map #[] 0)) := rfl
  go_enter Tryz.func32, Tryz.ntmps32
  go_wp2_with fail
  refine HSP.out.mono ?_
  rintro e w6 ⟨rfl, hw6⟩
  have hx6 : w6.heap[m5.heap.size]? = some (.cells ((a :: r).map S).toArray 9 (0, 0)) := by rw [hw6]; exact heap_alloc_new m5 _
  have hmb6 : w6.heap[w.heap.size]? = some (.map verbs.toArray 5) := by rw [hw6, Lib.alloc_old _ _ _ hmlt]; exact hmb
  have HB6 : Hid (Below w.heap.size w w6) := Lib.hid (by rw [hw6]; exact HB5.out.alloc HB5.out.size _)
  clear i1 i2 i3 i4 i5 HSP hw6 hmb
  generalize m5.heap.size = g at *
  clear hmlt HB5
  have c0 : w6.cell? ⟨g, 0, none⟩ = some (S a) := by rw [Lib.cell_of_heap hx6]; simp
  have hlk := look_run w6 w.heap.size a hmb6
  rw [show lookA a = .agg #[.int .i64 0, .int .i64 0, .nilFunc] by unfold lookA; rw [hv], hv, show (none : Option (Nat × Value)).isSome = false from rfl] at hlk
  have hsf := store_fn w6 (.int .i64 0) (.int .i64 0) .nilFunc .nilFunc rfl
  clear hmb6
  obtain ⟨n, hn⟩ : ∃ n, n = (a :: r).length := ⟨_, rfl⟩
  rw [← hn]
  have hn0 : 0 < n := by rw [hn]; simp
  have hn1 : (0 : Int) < (n : Int) := by omega
  clear hx6 hv hn
  go_wp2_with fail
  go_ret
  exact HC.out.same (HB6.out.alloc HB6.out.size _) rfl

set_option maxRecDepth 100000 in
set_option maxHeartbeats 4000000 in
theorem line_put_len (F : Nat → Option Obj) (B db bk : Nat) (s : BS) (l : List UInt8) (r : List (List UInt8)) (w : World) (h : Ctx F B db bk s w) (hl : l.length ≤ 3000) (hws : splitL l = [112, 117, 116] :: r) (hv : r.length ≠ 2) :
    Calls Tryz.prog 32 #[.pointer (some ⟨db, 0, none⟩), S l] w fun e w' => Res F B db w ((s, badM)) e w' := by
  obtain ⟨m1, m2, m3, m4, m5, i1, i2, i3, i4, i5, hm5⟩ := verbs_made w
  have hB5 : Below w.heap.size w m5 := by rw [hm5]; exact (Below.refl _ w).alloc (Nat.le_refl _) _
  have hmb : m5.heap[w.heap.size]? = some (.map verbs.toArray 5) := by rw [hm5]; exact heap_alloc_new w _
  have hmlt : w.heap.size < m5.heap.size := by rw [hm5]; simp
  have HC := Lib.hid h
  have HSP := Lib.hid (split_gen l m5 (h.hm.below (hB5.mono h.hB) h.h1) (by omega))
  rw [hws] at HSP
  have HB5 := Lib.hid hB5
  clear h hws hm5 hB5
  have hmm : (Instr.makeMap 89 none).run Tryz.prog w = .ok (.map (some w.heap.size)) (w.alloc (.map #[] 0)) := rfl
  go_enter Tryz.func32, Tryz.ntmps32
  go_wp2_with fail
  refine HSP.out.mono ?_
  rintro e w6 ⟨rfl, hw6⟩
  have hx6 : w6.heap[m5.heap.size]? = some (.cells (([112, 117, 116] :: r).map S).toArray 9 (0, 0)) := by rw [hw6]; exact heap_alloc_new m5 _
  have hmb6 : w6.heap[w.heap.size]? = some (.map verbs.toArray 5) := by rw [hw6, Lib.alloc_old _ _ _ hmlt]; exact hmb
  have HB6 : Hid (Below w.heap.size w w6) := Lib.hid (by rw [hw6]; exact HB5.out.alloc HB5.out.size _)
  clear i1 i2 i3 i4 i5 HSP hw6 hmb
  generalize m5.heap.size = g at *
  clear hmlt HB5
  have c0 : w6.cell? ⟨g, 0, none⟩ = some (S [112, 117, 116]) := by rw [Lib.cell_of_heap hx6]; simp
  have hlk := look_run w6 w.heap.size [112, 117, 116] hmb6
  rw [show lookA [112, 117, 116] = .agg #[.int .i64 2, .int .i64 1, .func (.func 54) #[] #[]] from rfl, show (lookV [112, 117, 116]).isSome = true from rfl] at hlk
  have hsf := store_fn w6 (.int .i64 2) (.int .i64 1) .nilFunc (.func (.func 54) #[] #[]) rfl
  clear hmb6
  obtain ⟨n, hn⟩ : ∃ n, n = ([112, 117, 116] :: r).length := ⟨_, rfl⟩
  rw [← hn]
  have hne : ((n : Int) != 3) = true := by simp at hn ⊢; omega
  have hne2 : ¬ (n : Int) = 3 := by simp at hn ⊢; omega
  have hn0 : 0 < n := by rw [hn]; simp
  have hn1 : (0 : Int) < (n : Int) := by omega
  clear hx6 hv hn
  go_wp2_with fail
  go_ret
  exact HC.out.same (HB6.out.alloc HB6.out.size _) rfl

set_option maxRecDepth 100000 in
set_option maxHeartbeats 4000000 in
theorem line_cut_len (F : Nat → Option Obj) (B db bk : Nat) (s : BS) (l : List UInt8) (r : List (List UInt8)) (w : World) (h : Ctx F B db bk s w) (hl : l.length ≤ 3000) (hws : splitL l = [99, 117, 116] :: r) (hv : r.length ≠ 2) :
    Calls Tryz.prog 32 #[.pointer (some ⟨db, 0, none⟩), S l] w fun e w' => Res F B db w ((s, badM)) e w' := by
  obtain ⟨m1, m2, m3, m4, m5, i1, i2, i3, i4, i5, hm5⟩ := verbs_made w
  have hB5 : Below w.heap.size w m5 := by rw [hm5]; exact (Below.refl _ w).alloc (Nat.le_refl _) _
  have hmb : m5.heap[w.heap.size]? = some (.map verbs.toArray 5) := by rw [hm5]; exact heap_alloc_new w _
  have hmlt : w.heap.size < m5.heap.size := by rw [hm5]; simp
  have HC := Lib.hid h
  have HSP := Lib.hid (split_gen l m5 (h.hm.below (hB5.mono h.hB) h.h1) (by omega))
  rw [hws] at HSP
  have HB5 := Lib.hid hB5
  clear h hws hm5 hB5
  have hmm : (Instr.makeMap 89 none).run Tryz.prog w = .ok (.map (some w.heap.size)) (w.alloc (.map #[] 0)) := rfl
  go_enter Tryz.func32, Tryz.ntmps32
  go_wp2_with fail
  refine HSP.out.mono ?_
  rintro e w6 ⟨rfl, hw6⟩
  have hx6 : w6.heap[m5.heap.size]? = some (.cells (([99, 117, 116] :: r).map S).toArray 9 (0, 0)) := by rw [hw6]; exact heap_alloc_new m5 _
  have hmb6 : w6.heap[w.heap.size]? = some (.map verbs.toArray 5) := by rw [hw6, Lib.alloc_old _ _ _ hmlt]; exact hmb
  have HB6 : Hid (Below w.heap.size w w6) := Lib.hid (by rw [hw6]; exact HB5.out.alloc HB5.out.size _)
  clear i1 i2 i3 i4 i5 HSP hw6 hmb
  generalize m5.heap.size = g at *
  clear hmlt HB5
  have c0 : w6.cell? ⟨g, 0, none⟩ = some (S [99, 117, 116]) := by rw [Lib.cell_of_heap hx6]; simp
  have hlk := look_run w6 w.heap.size [99, 117, 116] hmb6
  rw [show lookA [99, 117, 116] = .agg #[.int .i64 2, .int .i64 2, .func (.func 55) #[] #[]] from rfl, show (lookV [99, 117, 116]).isSome = true from rfl] at hlk
  have hsf := store_fn w6 (.int .i64 2) (.int .i64 2) .nilFunc (.func (.func 55) #[] #[]) rfl
  clear hmb6
  obtain ⟨n, hn⟩ : ∃ n, n = ([99, 117, 116] :: r).length := ⟨_, rfl⟩
  rw [← hn]
  have hne : ((n : Int) != 3) = true := by simp at hn ⊢; omega
  have hne2 : ¬ (n : Int) = 3 := by simp at hn ⊢; omega
  have hn0 : 0 < n := by rw [hn]; simp
  have hn1 : (0 : Int) < (n : Int) := by omega
  clear hx6 hv hn
  go_wp2_with fail
  go_ret
  exact HC.out.same (HB6.out.alloc HB6.out.size _) rfl

set_option maxRecDepth 100000 in
set_option maxHeartbeats 4000000 in
theorem line_now_len (F : Nat → Option Obj) (B db bk : Nat) (s : BS) (l : List UInt8) (r : List (List UInt8)) (w : World) (h : Ctx F B db bk s w) (hl : l.length ≤ 3000) (hws : splitL l = [110, 111, 119] :: r) (hv : r.length ≠ 0) :
    Calls Tryz.prog 32 #[.pointer (some ⟨db, 0, none⟩), S l] w fun e w' => Res F B db w ((s, badM)) e w' := by
  obtain ⟨m1, m2, m3, m4, m5, i1, i2, i3, i4, i5, hm5⟩ := verbs_made w
  have hB5 : Below w.heap.size w m5 := by rw [hm5]; exact (Below.refl _ w).alloc (Nat.le_refl _) _
  have hmb : m5.heap[w.heap.size]? = some (.map verbs.toArray 5) := by rw [hm5]; exact heap_alloc_new w _
  have hmlt : w.heap.size < m5.heap.size := by rw [hm5]; simp
  have HC := Lib.hid h
  have HSP := Lib.hid (split_gen l m5 (h.hm.below (hB5.mono h.hB) h.h1) (by omega))
  rw [hws] at HSP
  have HB5 := Lib.hid hB5
  clear h hws hm5 hB5
  have hmm : (Instr.makeMap 89 none).run Tryz.prog w = .ok (.map (some w.heap.size)) (w.alloc (.map #[] 0)) := rfl
  go_enter Tryz.func32, Tryz.ntmps32
  go_wp2_with fail
  refine HSP.out.mono ?_
  rintro e w6 ⟨rfl, hw6⟩
  have hx6 : w6.heap[m5.heap.size]? = some (.cells (([110, 111, 119] :: r).map S).toArray 9 (0, 0)) := by rw [hw6]; exact heap_alloc_new m5 _
  have hmb6 : w6.heap[w.heap.size]? = some (.map verbs.toArray 5) := by rw [hw6, Lib.alloc_old _ _ _ hmlt]; exact hmb
  have HB6 : Hid (Below w.heap.size w w6) := Lib.hid (by rw [hw6]; exact HB5.out.alloc HB5.out.size _)
  clear i1 i2 i3 i4 i5 HSP hw6 hmb
  generalize m5.heap.size = g at *
  clear hmlt HB5
  have c0 : w6.cell? ⟨g, 0, none⟩ = some (S [110, 111, 119]) := by rw [Lib.cell_of_heap hx6]; simp
  have hlk := look_run w6 w.heap.size [110, 111, 119] hmb6
  rw [show lookA [110, 111, 119] = .agg #[.int .i64 0, .int .i64 0, .func (.func 56) #[] #[]] from rfl, show (lookV [110, 111, 119]).isSome = true from rfl] at hlk
  have hsf := store_fn w6 (.int .i64 0) (.int .i64 0) .nilFunc (.func (.func 56) #[] #[]) rfl
  clear hmb6
  obtain ⟨n, hn⟩ : ∃ n, n = ([110, 111, 119] :: r).length := ⟨_, rfl⟩
  rw [← hn]
  have hne : ((n : Int) != 1) = true := by simp at hn ⊢; omega
  have hne2 : ¬ (n : Int) = 1 := by simp at hn ⊢; omega
  have hn0 : 0 < n := by rw [hn]; simp
  have hn1 : (0 : Int) < (n : Int) := by omega
  clear hx6 hv hn
  go_wp2_with fail
  go_ret
  exact HC.out.same (HB6.out.alloc HB6.out.size _) rfl

set_option maxRecDepth 100000 in
set_option maxHeartbeats 4000000 in
theorem line_find_len (F : Nat → Option Obj) (B db bk : Nat) (s : BS) (l : List UInt8) (r : List (List UInt8)) (w : World) (h : Ctx F B db bk s w) (hl : l.length ≤ 3000) (hws : splitL l = [102, 105, 110, 100] :: r) (hv : r.length ≠ 1) :
    Calls Tryz.prog 32 #[.pointer (some ⟨db, 0, none⟩), S l] w fun e w' => Res F B db w ((s, badM)) e w' := by
  obtain ⟨m1, m2, m3, m4, m5, i1, i2, i3, i4, i5, hm5⟩ := verbs_made w
  have hB5 : Below w.heap.size w m5 := by rw [hm5]; exact (Below.refl _ w).alloc (Nat.le_refl _) _
  have hmb : m5.heap[w.heap.size]? = some (.map verbs.toArray 5) := by rw [hm5]; exact heap_alloc_new w _
  have hmlt : w.heap.size < m5.heap.size := by rw [hm5]; simp
  have HC := Lib.hid h
  have HSP := Lib.hid (split_gen l m5 (h.hm.below (hB5.mono h.hB) h.h1) (by omega))
  rw [hws] at HSP
  have HB5 := Lib.hid hB5
  clear h hws hm5 hB5
  have hmm : (Instr.makeMap 89 none).run Tryz.prog w = .ok (.map (some w.heap.size)) (w.alloc (.map #[] 0)) := rfl
  go_enter Tryz.func32, Tryz.ntmps32
  go_wp2_with fail
  refine HSP.out.mono ?_
  rintro e w6 ⟨rfl, hw6⟩
  have hx6 : w6.heap[m5.heap.size]? = some (.cells (([102, 105, 110, 100] :: r).map S).toArray 9 (0, 0)) := by rw [hw6]; exact heap_alloc_new m5 _
  have hmb6 : w6.heap[w.heap.size]? = some (.map verbs.toArray 5) := by rw [hw6, Lib.alloc_old _ _ _ hmlt]; exact hmb
  have HB6 : Hid (Below w.heap.size w w6) := Lib.hid (by rw [hw6]; exact HB5.out.alloc HB5.out.size _)
  clear i1 i2 i3 i4 i5 HSP hw6 hmb
  generalize m5.heap.size = g at *
  clear hmlt HB5
  have c0 : w6.cell? ⟨g, 0, none⟩ = some (S [102, 105, 110, 100]) := by rw [Lib.cell_of_heap hx6]; simp
  have hlk := look_run w6 w.heap.size [102, 105, 110, 100] hmb6
  rw [show lookA [102, 105, 110, 100] = .agg #[.int .i64 1, .int .i64 0, .func (.func 57) #[] #[]] from rfl, show (lookV [102, 105, 110, 100]).isSome = true from rfl] at hlk
  have hsf := store_fn w6 (.int .i64 1) (.int .i64 0) .nilFunc (.func (.func 57) #[] #[]) rfl
  clear hmb6
  obtain ⟨n, hn⟩ : ∃ n, n = ([102, 105, 110, 100] :: r).length := ⟨_, rfl⟩
  rw [← hn]
  have hne : ((n : Int) != 2) = true := by simp at hn ⊢; omega
  have hne2 : ¬ (n : Int) = 2 := by simp at hn ⊢; omega
  have hn0 : 0 < n := by rw [hn]; simp
  have hn1 : (0 : Int) < (n : Int) := by omega
  clear hx6 hv hn
  go_wp2_with fail
  go_ret
  exact HC.out.same (HB6.out.alloc HB6.out.size _) rfl

set_option maxRecDepth 100000 in
set_option maxHeartbeats 4000000 in
theorem line_crash_len (F : Nat → Option Obj) (B db bk : Nat) (s : BS) (l : List UInt8) (r : List (List UInt8)) (w : World) (h : Ctx F B db bk s w) (hl : l.length ≤ 3000) (hws : splitL l = [99, 114, 97, 115, 104] :: r) (hv : r.length ≠ 1) :
    Calls Tryz.prog 32 #[.pointer (some ⟨db, 0, none⟩), S l] w fun e w' => Res F B db w ((s, badM)) e w' := by
  obtain ⟨m1, m2, m3, m4, m5, i1, i2, i3, i4, i5, hm5⟩ := verbs_made w
  have hB5 : Below w.heap.size w m5 := by rw [hm5]; exact (Below.refl _ w).alloc (Nat.le_refl _) _
  have hmb : m5.heap[w.heap.size]? = some (.map verbs.toArray 5) := by rw [hm5]; exact heap_alloc_new w _
  have hmlt : w.heap.size < m5.heap.size := by rw [hm5]; simp
  have HC := Lib.hid h
  have HSP := Lib.hid (split_gen l m5 (h.hm.below (hB5.mono h.hB) h.h1) (by omega))
  rw [hws] at HSP
  have HB5 := Lib.hid hB5
  clear h hws hm5 hB5
  have hmm : (Instr.makeMap 89 none).run Tryz.prog w = .ok (.map (some w.heap.size)) (w.alloc (.map #[] 0)) := rfl
  go_enter Tryz.func32, Tryz.ntmps32
  go_wp2_with fail
  refine HSP.out.mono ?_
  rintro e w6 ⟨rfl, hw6⟩
  have hx6 : w6.heap[m5.heap.size]? = some (.cells (([99, 114, 97, 115, 104] :: r).map S).toArray 9 (0, 0)) := by rw [hw6]; exact heap_alloc_new m5 _
  have hmb6 : w6.heap[w.heap.size]? = some (.map verbs.toArray 5) := by rw [hw6, Lib.alloc_old _ _ _ hmlt]; exact hmb
  have HB6 : Hid (Below w.heap.size w w6) := Lib.hid (by rw [hw6]; exact HB5.out.alloc HB5.out.size _)
  clear i1 i2 i3 i4 i5 HSP hw6 hmb
  generalize m5.heap.size = g at *
  clear hmlt HB5
  have c0 : w6.cell? ⟨g, 0, none⟩ = some (S [99, 114, 97, 115, 104]) := by rw [Lib.cell_of_heap hx6]; simp
  have hlk := look_run w6 w.heap.size [99, 114, 97, 115, 104] hmb6
  rw [show lookA [99, 114, 97, 115, 104] = .agg #[.int .i64 1, .int .i64 1, .func (.func 58) #[] #[]] from rfl, show (lookV [99, 114, 97, 115, 104]).isSome = true from rfl] at hlk
  have hsf := store_fn w6 (.int .i64 1) (.int .i64 1) .nilFunc (.func (.func 58) #[] #[]) rfl
  clear hmb6
  obtain ⟨n, hn⟩ : ∃ n, n = ([99, 114, 97, 115, 104] :: r).length := ⟨_, rfl⟩
  rw [← hn]
  have hne : ((n : Int) != 2) = true := by simp at hn ⊢; omega
  have hne2 : ¬ (n : Int) = 2 := by simp at hn ⊢; omega
  have hn0 : 0 < n := by rw [hn]; simp
  have hn1 : (0 : Int) < (n : Int) := by omega
  clear hx6 hv hn
  go_wp2_with fail
  go_ret
  exact HC.out.same (HB6.out.alloc HB6.out.size _) rfl
end Go.Proofs.YteoofkinmilckaaGreatDoor
