/- package desk's line: the lines that are done. Condition: as of its verbs. -/
import Derived.Test.YteoofkinmilckaaGreatDoorDeskL
namespace Go.Proofs.YteoofkinmilckaaGreatDoor
open Go.RowKit Go.Shelf IntWalk
attribute [local go_sem] byte_at str_app
attribute [local go_sem ↓] Go.wp_at_zero Go.wp_at_succ

set_option maxRecDepth 100000 in
set_option maxHeartbeats 4000000 in
theorem dline_cut (F : Nat → Option Obj) (B db bk : Nat) (s : BS) (n k : Nat) (l : List UInt8) (x y : List UInt8) (w : World) (h : Ctx F B db bk s w) (hl : l.length ≤ 3000) (hws : splitL l = [[99, 117, 116], x, y]) (hx : ∀ x ∈ splitL l, x.length ≤ 3000) (hn : numD x = some n) (hm : numD y = some k) :
    Calls Tryz.prog 32 #[.pointer (some ⟨db, 0, none⟩), S l] w fun e w' => Res F B db w (((cutS s n k).2, toldM (cutS s n k).1)) e w' := by
  rw [hws] at hx
  obtain ⟨i0, hi0, hz0, hz1, hz2⟩ := info_parts info_intF
  have HNx := Lib.hid (fun W (hT : TG W) (hE : EV W) => number7_any x W (by have := hx x (by simp); omega) hT hE)
  have HNy := Lib.hid (fun W (hT : TG W) (hE : EV W) => number7_any y W (by have := hx y (by simp); omega) hT hE)
  rw [hn] at HNx
  rw [hm] at HNy
  obtain ⟨m1, m2, m3, m4, m5, i1, i2, i3, i4, i5, hm5⟩ := verbs_made w
  have hB5 : Below w.heap.size w m5 := by rw [hm5]; exact (Below.refl _ w).alloc (Nat.le_refl _) _
  have hmb : m5.heap[w.heap.size]? = some (.map verbs.toArray 5) := by rw [hm5]; exact heap_alloc_new w _
  have hmlt : w.heap.size < m5.heap.size := by rw [hm5]; simp
  have HC := Lib.hid h
  have HHB := Lib.hid h.hB
  have HSP := Lib.hid (split_gen l m5 (h.hm.below (hB5.mono h.hB) h.h1) (by omega))
  rw [hws] at HSP
  have HB5 := Lib.hid hB5
  clear h hws hm5 hB5
  have hmm : (Instr.makeMap 89 none).run Tryz.prog w = .ok (.map (some w.heap.size)) (w.alloc (.map #[] 0)) := rfl
  go_enter Tryz.func32, Tryz.ntmps32
  go_wp2_with fail
  refine HSP.out.mono ?_
  rintro e w6 ⟨rfl, hw6⟩
  have hx6 : w6.heap[m5.heap.size]? = some (.cells #[S [99, 117, 116], S x, S y] 9 (0, 0)) := by rw [hw6]; exact heap_alloc_new m5 _
  have hmb6 : w6.heap[w.heap.size]? = some (.map verbs.toArray 5) := by rw [hw6, Lib.alloc_old _ _ _ hmlt]; exact hmb
  have HB6 : Hid (Below w.heap.size w w6) := Lib.hid (by rw [hw6]; exact HB5.out.alloc HB5.out.size _)
  clear i1 i2 i3 i4 i5 HSP hw6 hmb
  generalize m5.heap.size = g at *
  clear hmlt HB5
  have c0 : w6.cell? ⟨g, 0, none⟩ = some (S [99, 117, 116]) := by rw [Lib.cell_of_heap hx6]; rfl
  have c1 : w6.cell? ⟨g, 1, none⟩ = some (S x) := by rw [Lib.cell_of_heap hx6]; rfl
  have c2 : w6.cell? ⟨g, 2, none⟩ = some (S y) := by rw [Lib.cell_of_heap hx6]; rfl
  have hlk := look_run w6 w.heap.size [99, 117, 116] hmb6
  rw [show lookA [99, 117, 116] = .agg #[.int .i64 2, .int .i64 2, .func (.func 55) #[] #[]] from rfl, show (lookV [99, 117, 116]).isSome = true from rfl] at hlk
  have hsf := store_fn w6 (.int .i64 2) (.int .i64 2) .nilFunc (.func (.func 55) #[] #[]) rfl
  clear hmb6
  go_wp2_with fail
  have hv7 := heap_alloc_new w6 (.cells #[.int .i64 2, .int .i64 2, .func (.func 55) #[] #[]] 88)
  have hgl := (Array.getElem?_eq_some_iff.1 hx6).1
  have hx7 := (Lib.alloc_old w6 (.cells #[.int .i64 2, .int .i64 2, .func (.func 55) #[] #[]] 88) g hgl).trans hx6
  have HB7 : Hid (Below w.heap.size w (w6.alloc (.cells #[.int .i64 2, .int .i64 2, .func (.func 55) #[] #[]] 88))) := Lib.hid (HB6.out.alloc HB6.out.size _)
  clear hx6 hgl hsf hlk c0 c1 c2 HB6
  generalize w6.alloc (.cells #[.int .i64 2, .int .i64 2, .func (.func 55) #[] #[]] 88) = w7 at *
  generalize w6.heap.size = gv at *
  have cv7 : w7.cell? ⟨gv, 2, none⟩ = some (.func (.func 55) #[] #[]) := by rw [Lib.cell_of_heap hv7]; rfl
  have c17 : w7.cell? ⟨g, 1, none⟩ = some (S x) := by rw [Lib.cell_of_heap hx7]; rfl
  have c27 : w7.cell? ⟨g, 2, none⟩ = some (S y) := by rw [Lib.cell_of_heap hx7]; rfl
  have C7 := HC.out.below HB7.out
  refine wp_loop_rounds 3 ?_
  rw [rounds_succ]
  go_wp2_with fail
  refine (HNx.out _ C7.ht C7.he).mono ?_
  rintro e w8 ⟨⟨v8n, rfl, hv8n⟩, hb8⟩
  have C8 := C7.below hb8
  have HB8 := Lib.hid (HB7.out.trans (hb8.mono HB7.out.size))
  have hv8 := (hb8.block gv (Array.getElem?_eq_some_iff.1 hv7).1).trans hv7
  have hx8 := (hb8.block g (Array.getElem?_eq_some_iff.1 hx7).1).trans hx7
  have cv8 : w8.cell? ⟨gv, 2, none⟩ = some (.func (.func 55) #[] #[]) := by rw [Lib.cell_of_heap hv8]; rfl
  have c18 : w8.cell? ⟨g, 1, none⟩ = some (S x) := by rw [Lib.cell_of_heap hx8]; rfl
  have c28 : w8.cell? ⟨g, 2, none⟩ = some (S y) := by rw [Lib.cell_of_heap hx8]; rfl
  obtain rfl : v8n = (n : Int) := hv8n n rfl
  rw [show (some n : Option Nat).isSome = true from rfl]
  go_wp2_with (at_builtin; refine wpList_append1 rfl (.tmp 58) (.tmp 60) _ rfl 3 i0 _ Tryz.underlying34 hi0 hz0 hz1 (by omega) rfl w8.heap.size (.slice none 0 0) [] (.int .i64 (n : Int)) rfl rfl rfl (World.ownsRow_nil _ _ _ _) (by simp) (Nat.le_refl _) ?_; intro v' w9 hown' hB')
  have hown9 : w9.ownsRow w8.heap.size 3 1 v' 1 [.int .i64 (n : Int)] := by simpa using hown'
  have HO9 := Lib.hid hown9
  obtain ⟨g2, cc, og, rfl, hg2, hgo, hgc⟩ := own_num hown9
  have HK8 := Lib.hid C8.hk
  have HB89 := Lib.hid hB'
  have C9 := C8.below hB'
  have HB9 := Lib.hid (HB8.out.trans (hB'.mono HB8.out.size))
  have hv9 := (hB'.block gv (Array.getElem?_eq_some_iff.1 hv8).1).trans hv8
  have hx9 := (hB'.block g (Array.getElem?_eq_some_iff.1 hx8).1).trans hx8
  clear hown' hown9 hB'
  have cv9 : w9.cell? ⟨gv, 2, none⟩ = some (.func (.func 55) #[] #[]) := by rw [Lib.cell_of_heap hv9]; rfl
  have c19 : w9.cell? ⟨g, 1, none⟩ = some (S x) := by rw [Lib.cell_of_heap hx9]; rfl
  have c29 : w9.cell? ⟨g, 2, none⟩ = some (S y) := by rw [Lib.cell_of_heap hx9]; rfl
  rw [rounds_succ]
  go_wp2_with fail
  refine (HNy.out _ C9.ht C9.he).mono ?_
  rintro e w10 ⟨⟨v10n, rfl, hv10n⟩, hb10⟩
  have C10 := C9.below hb10
  have HB10 := Lib.hid (HB9.out.trans (hb10.mono HB9.out.size))
  have hv10 := (hb10.block gv (Array.getElem?_eq_some_iff.1 hv9).1).trans hv9
  have hx10 := (hb10.block g (Array.getElem?_eq_some_iff.1 hx9).1).trans hx9
  have cv10 : w10.cell? ⟨gv, 2, none⟩ = some (.func (.func 55) #[] #[]) := by rw [Lib.cell_of_heap hv10]; rfl
  have c110 : w10.cell? ⟨g, 1, none⟩ = some (S x) := by rw [Lib.cell_of_heap hx10]; rfl
  have c210 : w10.cell? ⟨g, 2, none⟩ = some (S y) := by rw [Lib.cell_of_heap hx10]; rfl
  obtain rfl : v10n = (k : Int) := hv10n k rfl
  rw [show (some k : Option Nat).isSome = true from rfl]
  have HO10 := Lib.hid (own_below HO9.out hb10 (Nat.le_refl _))
  have HZ10 := Nat.le_trans HB89.out.size hb10.size
  clear HK8 HO9 hgo hgc
  go_wp2_with (at_builtin; refine wpList_append1 rfl (.tmp 58) (.tmp 60) _ rfl 3 i0 _ Tryz.underlying34 hi0 hz0 hz1 (by omega) rfl w8.heap.size (.slice (some ⟨g2, 0, none⟩) 1 cc) [.int .i64 (n : Int)] (.int .i64 (k : Int)) rfl rfl rfl HO10.out (by simp) HZ10 ?_; intro v' w11 hown' hB11)
  have hown11 : w11.ownsRow w8.heap.size 3 1 v' 2 ([(n : Int), (k : Int)].map (Value.int .i64)) := by simpa using hown'
  obtain ⟨A2, c2', rfl, _⟩ := own_shape hown11
  have hin0 := Ints.of_own (l := [(n : Int), (k : Int)]) hown11
  have hgv8 := (Array.getElem?_eq_some_iff.1 hv8).1
  have h811 : Below w8.heap.size w8 w11 := (HB89.out.trans (hb10.mono HB89.out.size)).trans hB11
  have hv11 := (h811.block gv hgv8).trans hv8
  have cv11 : w11.cell? ⟨gv, 2, none⟩ = some (.func (.func 55) #[] #[]) := by rw [Lib.cell_of_heap hv11]; rfl
  have CD := (C8.below h811).below (Below.drew (Below.refl _ w11))
  have HB11 := Lib.hid (HB8.out.trans (h811.mono HB8.out.size))
  have HP := Lib.hid (fun W2 => dcut_any F B db bk s n k w11.drew A2 c2' W2 CD.hF CD.hk CD.ht CD.hg CD.hs hin0 CD.hB CD.h0 CD.h5)
  have hF := CD.hF
  clear C7 C8 C9 C10 CD hin0 hown' hown11 hB11 hb10 h811 HB89 HC HNx HNy HO10
  rw [rounds_succ]
  go_wp2_with fail
  go_region_with (refine (HP.out _).mono ?_; rintro e w12 ⟨rfl, hk12, hb12⟩)
  all_goals
    have HK := Lib.hid hk12
    have HF := Lib.hid (((HB11.out.mono HHB.out).trans (Below.drew (Below.refl B w11))).trans hb12)
    clear hk12 hb12
    go_wp2_with fail
    go_ret
    exact ⟨rfl, ⟨bk, by rw [upd_same hF]; exact HK.out⟩, HF.out⟩
end Go.Proofs.YteoofkinmilckaaGreatDoor
