/- package desk's line: the lines that are done. Condition: as of its verbs. -/
import Derived.Test.YteoofkinmilckaaGreatDoorDeskL
namespace Go.Proofs.YteoofkinmilckaaGreatDoor
open Go.RowKit Go.Shelf IntWalk
attribute [local go_sem] byte_at str_app
attribute [local go_sem ↓] Go.wp_at_zero Go.wp_at_succ

set_option maxRecDepth 100000 in
set_option maxHeartbeats 4000000 in
theorem dline_crash_bad (F : Nat → Option Obj) (B db bk : Nat) (s : BS) (l : List UInt8) (x : List UInt8) (w : World) (h : Ctx F B db bk s w) (hl : l.length ≤ 3000) (hws : splitL l = [[99, 114, 97, 115, 104], x]) (hx : ∀ x ∈ splitL l, x.length ≤ 3000) (hn : numD x = none) :
    Calls Tryz.prog 32 #[.pointer (some ⟨db, 0, none⟩), S l] w fun e w' => Res F B db w ((s, badM)) e w' := by
  rw [hws] at hx
  have HNx := Lib.hid (fun W (hT : TG W) (hE : EV W) => number7_any x W (by have := hx x (by simp); omega) hT hE)
  rw [hn] at HNx
  obtain ⟨m1, m2, m3, m4, m5, i1, i2, i3, i4, i5, hm5⟩ := verbs_made w
  have hB5 : Below w.heap.size w m5 := by rw [hm5]; exact (Below.refl _ w).alloc (Nat.le_refl _) _
  have hmb : m5.heap[w.heap.size]? = some (.map verbs.toArray 5) := by rw [hm5]; exact heap_alloc_new w _
  have hmlt : w.heap.size < m5.heap.size := by rw [hm5]; simp
  have HC := Lib.hid h
  have HSP := Lib.hid (split_gen l m5 (h.hm.below (hB5.mono h.hB) h.h1) (by omega))
  rw [hws] at HSP
  have HB5 := Lib.hid hB5
  clear h hws hm5 hB5
  have hmm : (Instr.makeMap 89 none).run Tryz.prog w = .ok (.map (some w.heap.size)) (w.alloc (.map #[] 0)) := rfl
  go_enter Tryz.func32, Tryz.ntmps32
  go_wp2_with fail
  refine HSP.out.mono ?_
  rintro e w6 ⟨rfl, hw6⟩
  have hx6 : w6.heap[m5.heap.size]? = some (.cells #[S [99, 114, 97, 115, 104], S x] 9 (0, 0)) := by rw [hw6]; exact heap_alloc_new m5 _
  have hmb6 : w6.heap[w.heap.size]? = some (.map verbs.toArray 5) := by rw [hw6, Lib.alloc_old _ _ _ hmlt]; exact hmb
  have HB6 : Hid (Below w.heap.size w w6) := Lib.hid (by rw [hw6]; exact HB5.out.alloc HB5.out.size _)
  clear i1 i2 i3 i4 i5 HSP hw6 hmb
  generalize m5.heap.size = g at *
  clear hmlt HB5
  have c0 : w6.cell? ⟨g, 0, none⟩ = some (S [99, 114, 97, 115, 104]) := by rw [Lib.cell_of_heap hx6]; rfl
  have c1 : w6.cell? ⟨g, 1, none⟩ = some (S x) := by rw [Lib.cell_of_heap hx6]; rfl
  have hlk := look_run w6 w.heap.size [99, 114, 97, 115, 104] hmb6
  rw [show lookA [99, 114, 97, 115, 104] = .agg #[.int .i64 1, .int .i64 1, .func (.func 58) #[] #[]] from rfl, show (lookV [99, 114, 97, 115, 104]).isSome = true from rfl] at hlk
  have hsf := store_fn w6 (.int .i64 1) (.int .i64 1) .nilFunc (.func (.func 58) #[] #[]) rfl
  clear hmb6
  go_wp2_with fail
  have hv7 := heap_alloc_new w6 (.cells #[.int .i64 1, .int .i64 1, .func (.func 58) #[] #[]] 88)
  have hgl := (Array.getElem?_eq_some_iff.1 hx6).1
  have hx7 := (Lib.alloc_old w6 (.cells #[.int .i64 1, .int .i64 1, .func (.func 58) #[] #[]] 88) g hgl).trans hx6
  have HB7 : Hid (Below w.heap.size w (w6.alloc (.cells #[.int .i64 1, .int .i64 1, .func (.func 58) #[] #[]] 88))) := Lib.hid (HB6.out.alloc HB6.out.size _)
  clear hx6 hgl hsf hlk c0 c1 HB6
  generalize w6.alloc (.cells #[.int .i64 1, .int .i64 1, .func (.func 58) #[] #[]] 88) = w7 at *
  generalize w6.heap.size = gv at *
  have cv7 : w7.cell? ⟨gv, 2, none⟩ = some (.func (.func 58) #[] #[]) := by rw [Lib.cell_of_heap hv7]; rfl
  have c17 : w7.cell? ⟨g, 1, none⟩ = some (S x) := by rw [Lib.cell_of_heap hx7]; rfl
  have C7 := HC.out.below HB7.out
  refine wp_loop_rounds 2 ?_
  rw [rounds_succ]
  go_wp2_with fail
  refine (HNx.out _ C7.ht C7.he).mono ?_
  rintro e w8 ⟨⟨v8n, rfl, hv8n⟩, hb8⟩
  have C8 := C7.below hb8
  have HB8 := Lib.hid (HB7.out.trans (hb8.mono HB7.out.size))
  have hv8 := (hb8.block gv (Array.getElem?_eq_some_iff.1 hv7).1).trans hv7
  have hx8 := (hb8.block g (Array.getElem?_eq_some_iff.1 hx7).1).trans hx7
  have cv8 : w8.cell? ⟨gv, 2, none⟩ = some (.func (.func 58) #[] #[]) := by rw [Lib.cell_of_heap hv8]; rfl
  have c18 : w8.cell? ⟨g, 1, none⟩ = some (S x) := by rw [Lib.cell_of_heap hx8]; rfl
  rw [show (none : Option Nat).isSome = false from rfl]
  clear C8
  go_wp2_with fail
  go_ret
  exact HC.out.same HB8.out rfl

set_option maxRecDepth 100000 in
set_option maxHeartbeats 4000000 in
theorem dline_crash (F : Nat → Option Obj) (B db bk : Nat) (s : BS) (n : Nat) (l : List UInt8) (x : List UInt8) (w : World) (h : Ctx F B db bk s w) (hl : l.length ≤ 3000) (hws : splitL l = [[99, 114, 97, 115, 104], x]) (hx : ∀ x ∈ splitL l, x.length ≤ 3000) (hn : numD x = some n) :
    Calls Tryz.prog 32 #[.pointer (some ⟨db, 0, none⟩), S l] w fun e w' => Res F B db w (crashA s n) e w' := by
  rw [hws] at hx
  obtain ⟨i0, hi0, hz0, hz1, hz2⟩ := info_parts info_intF
  have HNx := Lib.hid (fun W (hT : TG W) (hE : EV W) => number7_any x W (by have := hx x (by simp); omega) hT hE)
  rw [hn] at HNx
  obtain ⟨m1, m2, m3, m4, m5, i1, i2, i3, i4, i5, hm5⟩ := verbs_made w
  have hB5 : Below w.heap.size w m5 := by rw [hm5]; exact (Below.refl _ w).alloc (Nat.le_refl _) _
  have hmb : m5.heap[w.heap.size]? = some (.map verbs.toArray 5) := by rw [hm5]; exact heap_alloc_new w _
  have hmlt : w.heap.size < m5.heap.size := by rw [hm5]; simp
  have HC := Lib.hid h
  have HHB := Lib.hid h.hB
  have HSP := Lib.hid (split_gen l m5 (h.hm.below (hB5.mono h.hB) h.h1) (by omega))
  rw [hws] at HSP
  have HB5 := Lib.hid hB5
  clear h hws hm5 hB5
  have hmm : (Instr.makeMap 89 none).run Tryz.prog w = .ok (.map (some w.heap.size)) (w.alloc (.map #[] 0)) := rfl
  go_enter Tryz.func32, Tryz.ntmps32
  go_wp2_with fail
  refine HSP.out.mono ?_
  rintro e w6 ⟨rfl, hw6⟩
  have hx6 : w6.heap[m5.heap.size]? = some (.cells #[S [99, 114, 97, 115, 104], S x] 9 (0, 0)) := by rw [hw6]; exact heap_alloc_new m5 _
  have hmb6 : w6.heap[w.heap.size]? = some (.map verbs.toArray 5) := by rw [hw6, Lib.alloc_old _ _ _ hmlt]; exact hmb
  have HB6 : Hid (Below w.heap.size w w6) := Lib.hid (by rw [hw6]; exact HB5.out.alloc HB5.out.size _)
  clear i1 i2 i3 i4 i5 HSP hw6 hmb
  generalize m5.heap.size = g at *
  clear hmlt HB5
  have c0 : w6.cell? ⟨g, 0, none⟩ = some (S [99, 114, 97, 115, 104]) := by rw [Lib.cell_of_heap hx6]; rfl
  have c1 : w6.cell? ⟨g, 1, none⟩ = some (S x) := by rw [Lib.cell_of_heap hx6]; rfl
  have hlk := look_run w6 w.heap.size [99, 114, 97, 115, 104] hmb6
  rw [show lookA [99, 114, 97, 115, 104] = .agg #[.int .i64 1, .int .i64 1, .func (.func 58) #[] #[]] from rfl, show (lookV [99, 114, 97, 115, 104]).isSome = true from rfl] at hlk
  have hsf := store_fn w6 (.int .i64 1) (.int .i64 1) .nilFunc (.func (.func 58) #[] #[]) rfl
  clear hmb6
  go_wp2_with fail
  have hv7 := heap_alloc_new w6 (.cells #[.int .i64 1, .int .i64 1, .func (.func 58) #[] #[]] 88)
  have hgl := (Array.getElem?_eq_some_iff.1 hx6).1
  have hx7 := (Lib.alloc_old w6 (.cells #[.int .i64 1, .int .i64 1, .func (.func 58) #[] #[]] 88) g hgl).trans hx6
  have HB7 : Hid (Below w.heap.size w (w6.alloc (.cells #[.int .i64 1, .int .i64 1, .func (.func 58) #[] #[]] 88))) := Lib.hid (HB6.out.alloc HB6.out.size _)
  clear hx6 hgl hsf hlk c0 c1 HB6
  generalize w6.alloc (.cells #[.int .i64 1, .int .i64 1, .func (.func 58) #[] #[]] 88) = w7 at *
  generalize w6.heap.size = gv at *
  have cv7 : w7.cell? ⟨gv, 2, none⟩ = some (.func (.func 58) #[] #[]) := by rw [Lib.cell_of_heap hv7]; rfl
  have c17 : w7.cell? ⟨g, 1, none⟩ = some (S x) := by rw [Lib.cell_of_heap hx7]; rfl
  have C7 := HC.out.below HB7.out
  refine wp_loop_rounds 2 ?_
  rw [rounds_succ]
  go_wp2_with fail
  refine (HNx.out _ C7.ht C7.he).mono ?_
  rintro e w8 ⟨⟨v8n, rfl, hv8n⟩, hb8⟩
  have C8 := C7.below hb8
  have HB8 := Lib.hid (HB7.out.trans (hb8.mono HB7.out.size))
  have hv8 := (hb8.block gv (Array.getElem?_eq_some_iff.1 hv7).1).trans hv7
  have hx8 := (hb8.block g (Array.getElem?_eq_some_iff.1 hx7).1).trans hx7
  have cv8 : w8.cell? ⟨gv, 2, none⟩ = some (.func (.func 58) #[] #[]) := by rw [Lib.cell_of_heap hv8]; rfl
  have c18 : w8.cell? ⟨g, 1, none⟩ = some (S x) := by rw [Lib.cell_of_heap hx8]; rfl
  obtain rfl : v8n = (n : Int) := hv8n n rfl
  rw [show (some n : Option Nat).isSome = true from rfl]
  go_wp2_with (at_builtin; refine wpList_append1 rfl (.tmp 58) (.tmp 60) _ rfl 3 i0 _ Tryz.underlying34 hi0 hz0 hz1 (by omega) rfl w8.heap.size (.slice none 0 0) [] (.int .i64 (n : Int)) rfl rfl rfl (World.ownsRow_nil _ _ _ _) (by simp) (Nat.le_refl _) ?_; intro v' w9 hown' hB')
  have hown9 : w9.ownsRow w8.heap.size 3 1 v' 1 [.int .i64 (n : Int)] := by simpa using hown'
  have HO9 := Lib.hid hown9
  obtain ⟨g2, cc, og, rfl, hg2, hgo, hgc⟩ := own_num hown9
  have HK8 := Lib.hid C8.hk
  have HB89 := Lib.hid hB'
  have C9 := C8.below hB'
  have HB9 := Lib.hid (HB8.out.trans (hB'.mono HB8.out.size))
  have hv9 := (hB'.block gv (Array.getElem?_eq_some_iff.1 hv8).1).trans hv8
  have hx9 := (hB'.block g (Array.getElem?_eq_some_iff.1 hx8).1).trans hx8
  clear hown' hown9 hB'
  have cv9 : w9.cell? ⟨gv, 2, none⟩ = some (.func (.func 58) #[] #[]) := by rw [Lib.cell_of_heap hv9]; rfl
  have c19 : w9.cell? ⟨g, 1, none⟩ = some (S x) := by rw [Lib.cell_of_heap hx9]; rfl
  have CD := C9.below (Below.drew (Below.refl _ w9))
  have hgn : F g2 = none := by
    cases hq : F g2 with
    | none => rfl
    | some o =>
      have := (Array.getElem?_eq_some_iff.1 (HK8.out.frame hq)).1
      omega
  have hdg : db ≠ g2 := fun e => by rw [← e, CD.hF] at hgn; cases hgn
  have hkm : Bks (upd F g2 og) B bk s w9.drew := (HK8.out.more HB89.out hgo hg2).below (Below.drew (Below.refl _ w9))
  have HP := Lib.hid (fun W2 => dcrash_any (upd F g2 og) B db bk g2 og s n w9.drew cc W2 ((upd_ne hdg).trans CD.hF) (upd_self _ _ _) hkm CD.ht CD.hm CD.he CD.hg CD.hs hgc CD.hB CD.hd CD.h0 CD.h1 CD.h3 CD.h4 CD.h5)
  have HGN := Lib.hid hgn
  clear C7 C8 C9 CD HO9 hgo hgc HK8 HB89 HC HNx hkm hdg hgn hg2

  rw [rounds_succ]
  go_wp2_with fail
  go_region_with (refine (HP.out _).mono ?_; rintro e w10 ⟨rfl, ⟨bk', hk10⟩, hb10⟩)
  all_goals
    have HK := Lib.hid (hk10.weaken (upd_less HGN.out))
    have HF := Lib.hid (((HB9.out.mono HHB.out).trans (Below.drew (Below.refl B w9))).trans hb10)
    clear hk10 hb10
    go_wp2_with fail
    go_ret
    exact ⟨rfl, ⟨bk', HK.out⟩, HF.out⟩

set_option maxRecDepth 100000 in
set_option maxHeartbeats 4000000 in
theorem dline_now (F : Nat → Option Obj) (B db bk : Nat) (s : BS) (l : List UInt8) (w : World) (h : Ctx F B db bk s w) (hl : l.length ≤ 3000) (hws : splitL l = [[110, 111, 119]]) :
    Calls Tryz.prog 32 #[.pointer (some ⟨db, 0, none⟩), S l] w fun e w' => Res F B db w ((s, s.now ++ [46])) e w' := by
  obtain ⟨m1, m2, m3, m4, m5, i1, i2, i3, i4, i5, hm5⟩ := verbs_made w
  have hB5 : Below w.heap.size w m5 := by rw [hm5]; exact (Below.refl _ w).alloc (Nat.le_refl _) _
  have hmb : m5.heap[w.heap.size]? = some (.map verbs.toArray 5) := by rw [hm5]; exact heap_alloc_new w _
  have hmlt : w.heap.size < m5.heap.size := by rw [hm5]; simp
  have HC := Lib.hid h
  have HSP := Lib.hid (split_gen l m5 (h.hm.below (hB5.mono h.hB) h.h1) (by omega))
  rw [hws] at HSP
  have HB5 := Lib.hid hB5
  clear h hws hm5 hB5
  have hmm : (Instr.makeMap 89 none).run Tryz.prog w = .ok (.map (some w.heap.size)) (w.alloc (.map #[] 0)) := rfl
  go_enter Tryz.func32, Tryz.ntmps32
  go_wp2_with fail
  refine HSP.out.mono ?_
  rintro e w6 ⟨rfl, hw6⟩
  have hx6 : w6.heap[m5.heap.size]? = some (.cells #[S [110, 111, 119]] 9 (0, 0)) := by rw [hw6]; exact heap_alloc_new m5 _
  have hmb6 : w6.heap[w.heap.size]? = some (.map verbs.toArray 5) := by rw [hw6, Lib.alloc_old _ _ _ hmlt]; exact hmb
  have HB6 : Hid (Below w.heap.size w w6) := Lib.hid (by rw [hw6]; exact HB5.out.alloc HB5.out.size _)
  clear i1 i2 i3 i4 i5 HSP hw6 hmb
  generalize m5.heap.size = g at *
  clear hmlt HB5
  have c0 : w6.cell? ⟨g, 0, none⟩ = some (S [110, 111, 119]) := by rw [Lib.cell_of_heap hx6]; rfl
  have hlk := look_run w6 w.heap.size [110, 111, 119] hmb6
  rw [show lookA [110, 111, 119] = .agg #[.int .i64 0, .int .i64 0, .func (.func 56) #[] #[]] from rfl, show (lookV [110, 111, 119]).isSome = true from rfl] at hlk
  have hsf := store_fn w6 (.int .i64 0) (.int .i64 0) .nilFunc (.func (.func 56) #[] #[]) rfl
  clear hmb6
  go_wp2_with fail
  have hv7 := heap_alloc_new w6 (.cells #[.int .i64 0, .int .i64 0, .func (.func 56) #[] #[]] 88)
  have hgl := (Array.getElem?_eq_some_iff.1 hx6).1
  have hx7 := (Lib.alloc_old w6 (.cells #[.int .i64 0, .int .i64 0, .func (.func 56) #[] #[]] 88) g hgl).trans hx6
  have HB7 : Hid (Below w.heap.size w (w6.alloc (.cells #[.int .i64 0, .int .i64 0, .func (.func 56) #[] #[]] 88))) := Lib.hid (HB6.out.alloc HB6.out.size _)
  clear hx6 hgl hsf hlk c0 HB6
  generalize w6.alloc (.cells #[.int .i64 0, .int .i64 0, .func (.func 56) #[] #[]] 88) = w7 at *
  generalize w6.heap.size = gv at *
  have cv7 : w7.cell? ⟨gv, 2, none⟩ = some (.func (.func 56) #[] #[]) := by rw [Lib.cell_of_heap hv7]; rfl
  have C7 := HC.out.below HB7.out
  have CD := C7.below (Below.drew (Below.refl _ w7))
  have HP := Lib.hid (fun L W2 => dnow_any F B db bk s w7.drew L W2 CD.hF CD.hk CD.hs)
  clear C7 CD
  refine wp_loop_rounds 1 ?_
  rw [rounds_succ]
  go_wp2_with fail
  go_region_with (refine (HP.out _ _).mono ?_; rintro e w10 ⟨rfl, hw10⟩; obtain rfl := hw10.symm)
  all_goals
    go_wp2_with fail
    go_ret
    exact HC.out.same HB7.out.drew rfl

set_option maxRecDepth 100000 in
set_option maxHeartbeats 4000000 in
theorem dline_find (F : Nat → Option Obj) (B db bk : Nat) (s : BS) (l : List UInt8) (x : List UInt8) (w : World) (h : Ctx F B db bk s w) (hl : l.length ≤ 3000) (hws : splitL l = [[102, 105, 110, 100], x]) (hx : ∀ x ∈ splitL l, x.length ≤ 3000) :
    Calls Tryz.prog 32 #[.pointer (some ⟨db, 0, none⟩), S l] w fun e w' => Res F B db w ((s, findA s.now x)) e w' := by
  have hxl : x.length ≤ 100000 := by have := hx x (by rw [hws]; simp); omega
  obtain ⟨m1, m2, m3, m4, m5, i1, i2, i3, i4, i5, hm5⟩ := verbs_made w
  have hB5 : Below w.heap.size w m5 := by rw [hm5]; exact (Below.refl _ w).alloc (Nat.le_refl _) _
  have hmb : m5.heap[w.heap.size]? = some (.map verbs.toArray 5) := by rw [hm5]; exact heap_alloc_new w _
  have hmlt : w.heap.size < m5.heap.size := by rw [hm5]; simp
  have HC := Lib.hid h
  have HSP := Lib.hid (split_gen l m5 (h.hm.below (hB5.mono h.hB) h.h1) (by omega))
  rw [hws] at HSP
  have HB5 := Lib.hid hB5
  clear h hws hm5 hB5
  have hmm : (Instr.makeMap 89 none).run Tryz.prog w = .ok (.map (some w.heap.size)) (w.alloc (.map #[] 0)) := rfl
  go_enter Tryz.func32, Tryz.ntmps32
  go_wp2_with fail
  refine HSP.out.mono ?_
  rintro e w6 ⟨rfl, hw6⟩
  have hx6 : w6.heap[m5.heap.size]? = some (.cells #[S [102, 105, 110, 100], S x] 9 (0, 0)) := by rw [hw6]; exact heap_alloc_new m5 _
  have hmb6 : w6.heap[w.heap.size]? = some (.map verbs.toArray 5) := by rw [hw6, Lib.alloc_old _ _ _ hmlt]; exact hmb
  have HB6 : Hid (Below w.heap.size w w6) := Lib.hid (by rw [hw6]; exact HB5.out.alloc HB5.out.size _)
  clear i1 i2 i3 i4 i5 HSP hw6 hmb
  generalize m5.heap.size = g at *
  clear hmlt HB5
  have c0 : w6.cell? ⟨g, 0, none⟩ = some (S [102, 105, 110, 100]) := by rw [Lib.cell_of_heap hx6]; rfl
  have c1 : w6.cell? ⟨g, 1, none⟩ = some (S x) := by rw [Lib.cell_of_heap hx6]; rfl
  have hlk := look_run w6 w.heap.size [102, 105, 110, 100] hmb6
  rw [show lookA [102, 105, 110, 100] = .agg #[.int .i64 1, .int .i64 0, .func (.func 57) #[] #[]] from rfl, show (lookV [102, 105, 110, 100]).isSome = true from rfl] at hlk
  have hsf := store_fn w6 (.int .i64 1) (.int .i64 0) .nilFunc (.func (.func 57) #[] #[]) rfl
  clear hmb6
  go_wp2_with fail
  have hv7 := heap_alloc_new w6 (.cells #[.int .i64 1, .int .i64 0, .func (.func 57) #[] #[]] 88)
  have hgl := (Array.getElem?_eq_some_iff.1 hx6).1
  have hx7 := (Lib.alloc_old w6 (.cells #[.int .i64 1, .int .i64 0, .func (.func 57) #[] #[]] 88) g hgl).trans hx6
  have HB7 : Hid (Below w.heap.size w (w6.alloc (.cells #[.int .i64 1, .int .i64 0, .func (.func 57) #[] #[]] 88))) := Lib.hid (HB6.out.alloc HB6.out.size _)
  clear hx6 hgl hsf hlk c0 c1 HB6
  generalize w6.alloc (.cells #[.int .i64 1, .int .i64 0, .func (.func 57) #[] #[]] 88) = w7 at *
  generalize w6.heap.size = gv at *
  have cv7 : w7.cell? ⟨gv, 2, none⟩ = some (.func (.func 57) #[] #[]) := by rw [Lib.cell_of_heap hv7]; rfl
  have c17 : w7.cell? ⟨g, 1, none⟩ = some (S x) := by rw [Lib.cell_of_heap hx7]; rfl
  have C7 := HC.out.below HB7.out
  have CD := C7.below (Below.drew (Below.refl _ w7))
  have HP := Lib.hid (fun L => dfind_any F B db bk s x w7.drew L g CD.hF CD.hk CD.ht CD.hg CD.hs hxl c17)
  clear C7 CD

  refine wp_loop_rounds 1 ?_
  rw [rounds_succ]
  go_wp2_with fail
  go_region_with (refine (HP.out _).mono ?_; rintro e w10 ⟨rfl, hb10⟩)
  all_goals
    have HB10 := Lib.hid ((HB7.out.drew).trans (hb10.mono HB7.out.size))
    clear hb10
    go_wp2_with fail
    go_ret
    exact HC.out.same HB10.out rfl
end Go.Proofs.YteoofkinmilckaaGreatDoor
