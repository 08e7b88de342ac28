/- package edit's Steps, at texts that are not too long: a closure that reads a captured variable, a builder. No condition. -/
import Derived.Test.YtgmmlblefealjaaDoorEdF
import Derived.Test.YtgmmlblefealjaaDoorBuildB
import Derived.Test.YtgmmlblefealjaaDoorShelf
import Derived.StillTailTactics
namespace Go.Proofs.YtgmmlblefealjaaDoor
open Go.RowKit IntWalk
attribute [local go_sem] byte_at str_app
attribute [local go_sem ↓] Go.wp_at_zero Go.wp_at_succ

abbrev Isb (B b : Nat) (l : List UInt8) (w : World) : Prop := Lib.IsBuilder 49 5 B b (Lib.byteCells l) w
theorem isb_below {T e : TypeId} {B b : Nat} {bs : List Value} {w w' : World} (h : Lib.IsBuilder T e B b bs w) (hb : Below w.heap.size w w') : Lib.IsBuilder T e B b bs w' := by
  rcases h with h | h
  · have hl := h.lt
    obtain ⟨hB, v, hbk, hown, hne⟩ := h
    exact .inl ⟨hB, v, (hb.block _ hl).trans hbk, own_below hown hb (Nat.le_refl _), hne⟩
  · have hl := h.lt
    obtain ⟨hB, v, hbk, hown, hne⟩ := h
    exact .inr ⟨hB, v, (hb.block _ hl).trans hbk, own_below hown hb (Nat.le_refl _), hne⟩
theorem isb_set {B b g : Nat} {l : List UInt8} {w : World} {cs : List Value} (h : Isb B b l w) (hk : Blk w g 3 cs) (i : Nat) (u : Value) : Isb B b l (w.setCell ⟨g, i, none⟩ u) := by
  have key : ∀ p, Lib.BuilderAt 49 5 B b p (Lib.byteCells l) w → Lib.BuilderAt 49 5 B b p (Lib.byteCells l) (w.setCell ⟨g, i, none⟩ u) := by
    rintro p ⟨hB, v, hbk, hown, hne⟩
    have h1 : b ≠ g := by
      rintro rfl
      unfold Blk at hk
      rw [hbk] at hk
      injection hk with hk; injection hk with _ hk _
      exact absurd hk (by decide)
    refine ⟨hB, v, (Below.heap_setCell w ⟨g, i, none⟩ u b h1).trans hbk, hown.kept (row := some g) ⟨rfl, rfl, rfl, by simp [World.setCell], fun k _ hk => Below.heap_setCell _ _ _ _ (fun e => hk (by simp [e]))⟩ ?_, hne⟩
    right
    intro e
    obtain ⟨cs', fr', h'⟩ := own_type hown e
    unfold Blk at hk
    rw [h'] at hk
    injection hk with hk; injection hk with _ hk _
    exact absurd hk (by decide)
  exact h.imp (key _) (key _)
theorem Keeps.blk {w w' : World} (h : Keeps w w') {g : Nat} {cs : List Value} (hk : Blk w g 3 cs) : Blk w' g 3 cs := h g _ _ _ hk (by decide) (by decide)

set_option maxHeartbeats 1000000 in
theorem can_any (a b : List UInt8) (lp left : Nat) (w : World) (ha24 : a.length ≤ 24) (hb24 : b.length ≤ 24) (hl : Blk w lp 3 [.int .i64 (left : Int)]) :
    Calls Tryd.prog 20 #[S a, S b, .int .i64 1, .pointer (some ⟨lp, 0, none⟩)] w fun e w' => e = .returned (.bool (decide (ed a b + 1 = left))) ∧ Below w.heap.size w w' := by
  have HL := Lib.hid hl
  have hb := ed_bound a b
  have hlt := hl.lt
  clear hl
  go_enter Tryd.func20, Tryd.ntmps20
  go_wp2_with fail
  refine (far_any a b w ha24 hb24).mono ?_
  rintro e w1 ⟨rfl, hb1⟩
  have HB1 := Lib.hid hb1
  have c0 : w1.cell? ⟨lp, 0, none⟩ = some (.int .i64 (left : Int)) := by rw [(HL.out.below hb1 hlt).cell]; rfl
  have p1 : IntKind.i64.wrap ((ed a b : Int) + 1) = (ed a b : Int) + 1 := i64_in _ (by omega)
  clear hb1
  by_cases h : ed a b + 1 = left
  · have q1 : ((ed a b : Int) + 1 == (left : Int)) = true := by simp; omega
    have HD : Hid (decide (ed a b + 1 = left) = true) := Lib.hid (decide_eq_true h)
    clear h hb
    go_wp2_with fail
    go_ret
    exact ⟨ret_bool HD.out.symm, HB1.out⟩
  · have q1 : ((ed a b : Int) + 1 == (left : Int)) = false := by simp; omega
    have HD : Hid (decide (ed a b + 1 = left) = false) := Lib.hid (decide_eq_false h)
    clear h hb
    go_wp2_with fail
    go_ret
    exact ⟨ret_bool HD.out.symm, HB1.out⟩

theorem stepsF_succ (f : Nat) (a b : List UInt8) (h : ¬ (a = [] ∧ b = [])) : stepsF (f + 1) a b = (nxt a b).1 :: stepsF f (nxt a b).2.1 (nxt a b).2.2 := by rw [stepsF, if_neg h]
theorem stepsF_more : ∀ (f : Nat) (a b : List UInt8), a.length + b.length ≤ f → stepsF f a b = stepsM a b
  | 0, a, b, h => by
    have ha : a = [] := List.length_eq_zero_iff.1 (by omega)
    have hb : b = [] := List.length_eq_zero_iff.1 (by omega)
    subst ha hb; rfl
  | f + 1, a, b, h => by
    by_cases h0 : a = [] ∧ b = []
    · obtain ⟨rfl, rfl⟩ := h0; rfl
    · have hs := (nxt_stp a b h0).1.less
      rw [stepsF_succ f a b h0, stepsF_more f _ _ (by omega)]
      unfold stepsM
      obtain ⟨t, ht⟩ : ∃ t, a.length + b.length = t + 1 := ⟨a.length + b.length - 1, by omega⟩
      rw [ht, stepsF_succ t a b h0]
      have h2 := stepsF_more f (nxt a b).2.1 (nxt a b).2.2 (by omega)
      unfold stepsM at h2
      rw [← h2]
      congr 1
      rw [h2]
      rcases Nat.lt_or_ge t f with q | q
      · have h3 := stepsF_more t (nxt a b).2.1 (nxt a b).2.2 (by omega)
        unfold stepsM at h3
        exact h3.symm
      · obtain rfl : t = f := by omega
        exact h2.symm
theorem stepsM_cons {a b : List UInt8} (h : ¬ (a = [] ∧ b = [])) : stepsM a b = (nxt a b).1 :: stepsM (nxt a b).2.1 (nxt a b).2.2 := by
  have hs := (nxt_stp a b h).1.less
  obtain ⟨t, ht⟩ : ∃ t, a.length + b.length = t + 1 := ⟨a.length + b.length - 1, by omega⟩
  unfold stepsM
  rw [ht, stepsF_succ t a b h, stepsF_more t _ _ (by omega)]
  rfl
theorem nxt_ed {a b a' b' : List UInt8} {v : UInt8} (h : ¬ (a = [] ∧ b = [])) (e : nxt a b = (v, a', b')) : ed a' b' + (if v = 61 then 0 else 1) = ed a b := by
  have := (nxt_stp a b h).2
  rw [e] at this
  exact this
theorem nxt_one {a b a' b' : List UInt8} {v : UInt8} (h : ¬ (a = [] ∧ b = [])) (e : nxt a b = (v, a', b')) (hv : v ≠ 61) : stepsM a b = v :: stepsM a' b' ∧ ed a' b' + 1 = ed a b := by
  have h2 := nxt_ed h e
  rw [if_neg hv] at h2
  exact ⟨(stepsM_cons h).trans (by rw [e]), h2⟩
theorem nxt_none {a b a' b' : List UInt8} (h : ¬ (a = [] ∧ b = [])) (e : nxt a b = (61, a', b')) : stepsM a b = 61 :: stepsM a' b' ∧ ed a' b' = ed a b := by
  have h2 := nxt_ed h e
  rw [if_pos rfl] at h2
  exact ⟨(stepsM_cons h).trans (by rw [e]), h2⟩
theorem nxt_sub {c d : UInt8} {a b : List UInt8} (h : c ≠ d) (h1 : ed a b + 1 = ed (c :: a) (d :: b)) : nxt (c :: a) (d :: b) = (33, a, b) := by rw [nxt_cons, if_pos ⟨h, h1⟩]
theorem nxt_ins {c d : UInt8} {a b : List UInt8} (h : ¬ (c ≠ d ∧ ed a b + 1 = ed (c :: a) (d :: b))) (h1 : ed (c :: a) b + 1 = ed (c :: a) (d :: b)) : nxt (c :: a) (d :: b) = (43, c :: a, b) := by rw [nxt_cons, if_neg h, if_pos h1]
theorem nxt_del {c d : UInt8} {a b : List UInt8} (h : ¬ (c ≠ d ∧ ed a b + 1 = ed (c :: a) (d :: b))) (h1 : ¬ ed (c :: a) b + 1 = ed (c :: a) (d :: b)) (h2 : ed a (d :: b) + 1 = ed (c :: a) (d :: b)) : nxt (c :: a) (d :: b) = (45, a, d :: b) := by rw [nxt_cons, if_neg h, if_neg h1, if_pos h2]
theorem nxt_keep {c d : UInt8} {a b : List UInt8} (h : ¬ (c ≠ d ∧ ed a b + 1 = ed (c :: a) (d :: b))) (h1 : ¬ ed (c :: a) b + 1 = ed (c :: a) (d :: b)) (h2 : ¬ ed a (d :: b) + 1 = ed (c :: a) (d :: b)) : nxt (c :: a) (d :: b) = (61, a, b) := by rw [nxt_cons, if_neg h, if_neg h1, if_neg h2]
theorem ed_insL (d : UInt8) (b : List UInt8) : ed [] b + 1 = ed [] (d :: b) := by rw [ed_nilL, ed_nilL]; rfl
theorem ed_delR (c : UInt8) (a : List UInt8) : ed a [] + 1 = ed (c :: a) [] := by rw [ed_nilR, ed_nilR]; rfl
theorem tail_cons (c : UInt8) (a : List UInt8) : (ByteArray.mk (c :: a).toArray).extract 1 (a.length + 1) = ByteArray.mk a.toArray := by
  rw [Lib.extract_eq]; simp
theorem head_cons (c : UInt8) (a : List UInt8) : bu (c :: a) 0 = c := rfl

set_option maxRecDepth 100000 in
set_option maxHeartbeats 8000000 in
theorem steps_any (a b : List UInt8) (w : World) (ha24 : a.length ≤ 24) (hb24 : b.length ≤ 24) :
    Calls Tryd.prog 5 #[S a, S b] w fun e w' => e = .returned (.tuple #[S (stepsM a b), .nilIface]) ∧ Below w.heap.size w w' := by
  have hmf : ∀ (fn : Fn) (first cap : Array Value) (w : World), (Instr.makeFunc fn first cap).run Tryd.prog w = .ok (.func fn first cap) w := fun _ _ _ _ => rfl
  have HL := Lib.hid (long2_no 24 a b (w.alloc (.cells #[S a, S b] 9)) w.heap.size 0 (cell_of_row _ _ 0 #[S a, S b] 9 (0, 0) (heap_alloc_new w _)) (cell_of_row _ _ 1 #[S a, S b] 9 (0, 0) (heap_alloc_new w _)) (by omega) (by omega))
  have HB0 := Lib.hid ((Below.refl _ w).alloc (Nat.le_refl _) (.cells #[S a, S b] 9))
  go_enter Tryd.func5, Tryd.ntmps5
  go_wp2_with fail
  refine HL.out.mono ?_
  rintro e w' ⟨rfl, rfl⟩
  rw [show errV 0 = .nilIface from rfl]
  generalize w.alloc (.cells #[S a, S b] 9) = w0 at *
  clear HL
  go_wp2_with fail
  have HI1 : Hid (Isb w0.heap.size w0.heap.size [] (w0.alloc (.cells #[.pointer none, .slice none 0 0] 49))) := Lib.hid (Lib.fresh_isBuilder _ _ w0)
  have HB1 := Lib.hid (HB0.out.alloc HB0.out.size (.cells #[.pointer none, .slice none 0 0] 49))
  have HZ1 : Hid (w0.heap.size ≤ (w0.alloc (.cells #[.pointer none, .slice none 0 0] 49)).heap.size) := Lib.hid (by simp)
  generalize w0.alloc (.cells #[.pointer none, .slice none 0 0] 49) = w1 at *
  refine (far_any a b w1 ha24 hb24).mono ?_
  rintro e w2 ⟨rfl, hb2⟩
  have HI2 := Lib.hid (isb_below HI1.out hb2)
  have HB2 := Lib.hid (HB1.out.trans (hb2.mono HB1.out.size))
  have HZ2 := Lib.hid (Nat.le_trans HZ1.out hb2.size)
  have HBw := Lib.hid HB0.out.size
  clear hb2 HI1 HB1 HZ1
  go_wp2_with fail
  have HI3 := Lib.hid (isb_below HI2.out ((Below.refl _ w2).alloc (Nat.le_refl _) (.cells #[.int .i64 (ed a b : Int)] 3)))
  have HL3 : Hid (Blk (w2.alloc (.cells #[.int .i64 (ed a b : Int)] 3)) w2.heap.size 3 [.int .i64 (ed a b : Int)]) := Lib.hid (Blk.new w2 3 [.int .i64 (ed a b : Int)])
  have HB3 := Lib.hid (HB2.out.alloc HB2.out.size (.cells #[.int .i64 (ed a b : Int)] 3))
  have HZ3 : Hid (w0.heap.size ≤ (w2.alloc (.cells #[.int .i64 (ed a b : Int)] 3)).heap.size) := Lib.hid (by have := HZ2.out; simp; omega)
  have HLP : Hid (w.heap.size ≤ w2.heap.size) := Lib.hid (Nat.le_trans HBw.out HZ2.out)
  generalize w2.alloc (.cells #[.int .i64 (ed a b : Int)] 3) = w3 at *
  generalize w0.heap.size = B at *
  generalize w2.heap.size = lp at *
  clear HI2 HB2 HZ2 HB0
  go_loopg [0, 1] (a.length + b.length) (fun f xv yv wr => ∃ (x y out : List UInt8), f = x.length + y.length ∧ xv = S x ∧ yv = S y ∧ x.length ≤ 24 ∧ y.length ≤ 24 ∧ out.length ≤ 1000 - f ∧ Hid (out ++ stepsM x y = stepsM a b) ∧ Hid (Isb B B out wr) ∧ Hid (Blk wr lp 3 [.int .i64 (ed x y : Int)]) ∧ Hid (Below w.heap.size w wr) ∧ Hid (B ≤ wr.heap.size))
  case atStart => exact ⟨a, b, [], rfl, rfl, rfl, ha24, hb24, by simp, Lib.hid rfl, HI3, HL3, HB3, HZ3⟩
  case round =>
    obtain ⟨x, y, out, rfl, rfl, rfl, hx24, hy24, ho, HT, HI, HL, HB, HZ⟩ := hrel
    clear HI3 HL3 HB3 HZ3
    by_cases hx : x = []
    · subst hx
      by_cases hy : y = []
      · subst hy
        have HO : Hid (out = stepsM a b) := Lib.hid (by have := HT.out; rwa [show stepsM [] [] = [] from rfl, List.append_nil] at this)
        clear HT
        go_wp2_with fail
        refine (Tryd.Builder_String_any B B out wr HI.out HZ.out).mono ?_
        rintro e w2 ⟨rfl, hb2⟩
        go_wp2_with fail
        go_ret2
        exact ⟨by rw [HO.out]; rfl, HB.out.trans (hb2.mono HBw.out)⟩
      · have hy0 : 0 < y.length := List.length_pos_iff.2 hy
        have hye : y.isEmpty = false := by simpa using hy
        have hyn : (y == []) = false := by simpa using hy
        have hy1 : (1 : Int) ≤ (y.length : Int) := by omega
        obtain ⟨yt, hyt⟩ : ∃ t, t = y.drop 1 := ⟨_, rfl⟩
        have HY : Hid (y = bu y 0 :: yt) := Lib.hid (by have := drop_bu (l := y) (k := 0) hy0; rw [hyt]; simpa using this)
        have fy : (ByteArray.mk y.toArray).extract 1 y.length = ByteArray.mk yt.toArray := by rw [hyt]; exact str_from y 1
        have HYD : Hid (yt.length + 1 = y.length) := Lib.hid (by rw [hyt]; simp; omega)
        clear hyt
        clear hy
        have HXD := Lib.hid trivial
        have HNN : Hid (¬ (([] : List UInt8) = [] ∧ y = [])) := Lib.hid (fun h => by have := h.2; subst this; simp at hy0)
        have STEP : Hid (stepsM [] y = 43 :: stepsM [] yt ∧ ed [] yt + 1 = ed [] y) := Lib.hid (nxt_one HNN.out (by rw [HY.out]; rfl) (by decide))
        clear HNN
        have C2 := Lib.hid (fun W (h : Blk W lp 3 [.int .i64 (ed [] y : Int)]) => can_any [] (yt) lp (ed [] y) W (by simp) (by have := HXD.out; have := HYD.out; omega) h)
        have D2 : Hid (ed [] (yt) + 1 = ed [] y) := Lib.hid (by have := ed_insL (bu y 0) (yt); rwa [← HY.out] at this)
        have HX := Lib.hid trivial
        have HED := Lib.hid trivial
        have HI0 := HI; have HL0 := HL; have HB0 := HB; have HZ0 := HZ
        clear HI HL HB HZ
        go_wp2_with fail
        go_quiet (fail)
        go_wp2_with fail
        have HI1 : Hid (Isb B B out (wr.drewN nq)) := HI0
        have HL1 : Hid (Blk (wr.drewN nq) lp 3 [.int .i64 (ed [] y : Int)]) := HL0
        have HB1 : Hid (Below w.heap.size w (wr.drewN nq)) := Lib.hid (below_drewN HB0.out _)
        have HZ1 : Hid (B ≤ (wr.drewN nq).heap.size) := HZ0
        clear HI0 HL0 HB0 HZ0
        generalize wr.drewN nq = wq at *
        refine (C2.out _ HL1.out).mono ?_
        rintro e w2 ⟨rfl, hbk⟩
        have HI2 := Lib.hid (isb_below HI1.out hbk)
        have HL2 := Lib.hid (HL1.out.below hbk HL1.out.lt)
        have HB2 := Lib.hid (HB1.out.trans (hbk.mono HB1.out.size))
        have HZ2 := Lib.hid (Nat.le_trans HZ1.out hbk.size)
        clear hbk HI1 HL1 HB1 HZ1 C2
        rw [decide_eq_true D2.out]
        have HS := Lib.hid (HT.out.symm.trans (congrArg (out ++ ·) STEP.out.1))
        have HE := Lib.hid STEP.out.2
        clear HT HX HY HED STEP
        go_wp2_with fail
        refine (writeByte_lit B B out 43 43 rfl _ HI2.out (by omega) HZ2.out).mono ?_
        rintro e w9 ⟨rfl, hi, hb, hk⟩
        have HI9 := Lib.hid hi
        have HL9 := Lib.hid (hk.blk HL2.out)
        have HB9 := Lib.hid (HB2.out.trans (hb.mono HBw.out))
        have HZ9 := Lib.hid (Nat.le_trans HZ2.out hb.size)
        clear hi hb hk HI2 HL2 HB2 HZ2
        have c0 : w9.cell? ⟨lp, 0, none⟩ = some (.int .i64 (ed [] y : Int)) := by rw [HL9.out.cell]; rfl
        have c1 : w9.frozen? ⟨lp, 0, none⟩ = false := HL9.out.frozen 0
        have p1 : IntKind.i64.wrap ((ed [] y : Int) - 1) = (ed ([]) (yt) : Int) := by
          have h1 := HE.out
          have h2 := ed_bound ([]) (yt)
          have := HXD.out; have := HYD.out
          try simp only [List.length_nil] at *
          rw [i64_in _ (by omega)]; omega
        clear HE
        go_wp2_with fail
        go_still_tail 5, (by kernel_rfl)
        change wpList _ _ _ _ _ w9.drew
        have HIt : Hid (Isb B B (out ++ [43]) w9.drew) := HI9
        have HLt : Hid (Blk w9.drew lp 3 [.int .i64 (ed [] y : Int)]) := HL9
        have HBt : Hid (Below w.heap.size w w9.drew) := Lib.hid (below_drewN HB9.out 1)
        have HZt : Hid (B ≤ w9.drew.heap.size) := HZ9
        have c1t : w9.drew.frozen? ⟨lp, 0, none⟩ = false := c1
        have c0t : w9.drew.cell? ⟨lp, 0, none⟩ = some (.int .i64 (ed [] y : Int)) := c0
        generalize w9.drew = wt at *
        clear c0 c1 HI9 HL9 HB9 HZ9
        go_wp2_with fail
        have HIu := Lib.hid (isb_set HIt.out HLt.out 0 (.int .i64 (ed ([]) (yt) : Int)))
        have HLu := Lib.hid (HLt.out.set_ 0 (.int .i64 (ed ([]) (yt) : Int)))
        have HBu := Lib.hid (HBt.out.setCell (p := ⟨lp, 0, none⟩) HLP.out (.int .i64 (ed ([]) (yt) : Int)))
        go_roundg (0 + yt.length)
        case measure => (have := HXD.out; have := HYD.out; (try simp only [List.length_nil] at *); omega)
        case rel => exact ⟨[], yt, out ++ [43], (by first | rfl | simp), rfl, rfl, (by have := HXD.out; have := HYD.out; (try simp only [List.length_nil] at *); omega), (by have := HXD.out; have := HYD.out; (try simp only [List.length_nil] at *); omega), (by rw [List.length_append, List.length_singleton]; have := HXD.out; have := HYD.out; (try simp only [List.length_nil] at *); omega), Lib.hid (by rw [HS.out]; simp), HIu, HLu, HBu, Lib.hid (by have := HZt.out; simp only [World.setCell, Array.size_modify]; exact this)⟩
    · have hx0 : 0 < x.length := List.length_pos_iff.2 hx
      have hxe : x.isEmpty = false := by simpa using hx
      have hxn : (x == []) = false := by simpa using hx
      have hx1 : (1 : Int) ≤ (x.length : Int) := by omega
      obtain ⟨xt, hxt⟩ : ∃ t, t = x.drop 1 := ⟨_, rfl⟩
      have HX : Hid (x = bu x 0 :: xt) := Lib.hid (by have := drop_bu (l := x) (k := 0) hx0; rw [hxt]; simpa using this)
      have fx : (ByteArray.mk x.toArray).extract 1 x.length = ByteArray.mk xt.toArray := by rw [hxt]; exact str_from x 1
      have HXD : Hid (xt.length + 1 = x.length) := Lib.hid (by rw [hxt]; simp; omega)
      clear hxt
      clear hx
      by_cases hy : y = []
      · subst hy
        have HYD := Lib.hid trivial
        have HNN : Hid (¬ (x = [] ∧ ([] : List UInt8) = [])) := Lib.hid (fun h => by have := h.1; subst this; simp at hx0)
        have STEP : Hid (stepsM x [] = 45 :: stepsM xt [] ∧ ed xt [] + 1 = ed x []) := Lib.hid (nxt_one HNN.out (by rw [HX.out]; rfl) (by decide))
        clear HNN
        have C3 := Lib.hid (fun W (h : Blk W lp 3 [.int .i64 (ed x [] : Int)]) => can_any (xt) [] lp (ed x []) W (by have := HXD.out; have := HYD.out; omega) (by simp) h)
        have D3 : Hid (ed (xt) [] + 1 = ed x []) := Lib.hid (by have := ed_delR (bu x 0) (xt); rwa [← HX.out] at this)
        have HY := Lib.hid trivial
        have HED := Lib.hid trivial
        have HI0 := HI; have HL0 := HL; have HB0 := HB; have HZ0 := HZ
        clear HI HL HB HZ
        go_wp2_with fail
        go_quiet (fail)
        go_wp2_with fail
        have HI1 : Hid (Isb B B out (wr.drewN nq)) := HI0
        have HL1 : Hid (Blk (wr.drewN nq) lp 3 [.int .i64 (ed x [] : Int)]) := HL0
        have HB1 : Hid (Below w.heap.size w (wr.drewN nq)) := Lib.hid (below_drewN HB0.out _)
        have HZ1 : Hid (B ≤ (wr.drewN nq).heap.size) := HZ0
        clear HI0 HL0 HB0 HZ0
        generalize wr.drewN nq = wq at *
        refine (C3.out _ HL1.out).mono ?_
        rintro e w2 ⟨rfl, hbk⟩
        have HI2 := Lib.hid (isb_below HI1.out hbk)
        have HL2 := Lib.hid (HL1.out.below hbk HL1.out.lt)
        have HB2 := Lib.hid (HB1.out.trans (hbk.mono HB1.out.size))
        have HZ2 := Lib.hid (Nat.le_trans HZ1.out hbk.size)
        clear hbk HI1 HL1 HB1 HZ1 C3
        rw [decide_eq_true D3.out]
        have HS := Lib.hid (HT.out.symm.trans (congrArg (out ++ ·) STEP.out.1))
        have HE := Lib.hid STEP.out.2
        clear HT HX HY HED STEP
        go_wp2_with fail
        refine (writeByte_lit B B out 45 45 rfl _ HI2.out (by omega) HZ2.out).mono ?_
        rintro e w9 ⟨rfl, hi, hb, hk⟩
        have HI9 := Lib.hid hi
        have HL9 := Lib.hid (hk.blk HL2.out)
        have HB9 := Lib.hid (HB2.out.trans (hb.mono HBw.out))
        have HZ9 := Lib.hid (Nat.le_trans HZ2.out hb.size)
        clear hi hb hk HI2 HL2 HB2 HZ2
        have c0 : w9.cell? ⟨lp, 0, none⟩ = some (.int .i64 (ed x [] : Int)) := by rw [HL9.out.cell]; rfl
        have c1 : w9.frozen? ⟨lp, 0, none⟩ = false := HL9.out.frozen 0
        have p1 : IntKind.i64.wrap ((ed x [] : Int) - 1) = (ed (xt) ([]) : Int) := by
          have h1 := HE.out
          have h2 := ed_bound (xt) ([])
          have := HXD.out; have := HYD.out
          try simp only [List.length_nil] at *
          rw [i64_in _ (by omega)]; omega
        clear HE
        go_wp2_with fail
        go_still_tail 5, (by kernel_rfl)
        change wpList _ _ _ _ _ w9.drew
        have HIt : Hid (Isb B B (out ++ [45]) w9.drew) := HI9
        have HLt : Hid (Blk w9.drew lp 3 [.int .i64 (ed x [] : Int)]) := HL9
        have HBt : Hid (Below w.heap.size w w9.drew) := Lib.hid (below_drewN HB9.out 1)
        have HZt : Hid (B ≤ w9.drew.heap.size) := HZ9
        have c1t : w9.drew.frozen? ⟨lp, 0, none⟩ = false := c1
        have c0t : w9.drew.cell? ⟨lp, 0, none⟩ = some (.int .i64 (ed x [] : Int)) := c0
        generalize w9.drew = wt at *
        clear c0 c1 HI9 HL9 HB9 HZ9
        go_wp2_with fail
        have HIu := Lib.hid (isb_set HIt.out HLt.out 0 (.int .i64 (ed (xt) ([]) : Int)))
        have HLu := Lib.hid (HLt.out.set_ 0 (.int .i64 (ed (xt) ([]) : Int)))
        have HBu := Lib.hid (HBt.out.setCell (p := ⟨lp, 0, none⟩) HLP.out (.int .i64 (ed (xt) ([]) : Int)))
        go_roundg (xt.length + 0)
        case measure => (have := HXD.out; have := HYD.out; (try simp only [List.length_nil] at *); omega)
        case rel => exact ⟨xt, [], out ++ [45], (by first | rfl | simp), rfl, rfl, (by have := HXD.out; have := HYD.out; (try simp only [List.length_nil] at *); omega), (by have := HXD.out; have := HYD.out; (try simp only [List.length_nil] at *); omega), (by rw [List.length_append, List.length_singleton]; have := HXD.out; have := HYD.out; (try simp only [List.length_nil] at *); omega), Lib.hid (by rw [HS.out]; simp), HIu, HLu, HBu, Lib.hid (by have := HZt.out; simp only [World.setCell, Array.size_modify]; exact this)⟩
      · have hy0 : 0 < y.length := List.length_pos_iff.2 hy
        have hye : y.isEmpty = false := by simpa using hy
        have hyn : (y == []) = false := by simpa using hy
        have hy1 : (1 : Int) ≤ (y.length : Int) := by omega
        obtain ⟨yt, hyt⟩ : ∃ t, t = y.drop 1 := ⟨_, rfl⟩
        have HY : Hid (y = bu y 0 :: yt) := Lib.hid (by have := drop_bu (l := y) (k := 0) hy0; rw [hyt]; simpa using this)
        have fy : (ByteArray.mk y.toArray).extract 1 y.length = ByteArray.mk yt.toArray := by rw [hyt]; exact str_from y 1
        have HYD : Hid (yt.length + 1 = y.length) := Lib.hid (by rw [hyt]; simp; omega)
        clear hyt
        clear hy
        have HED := Lib.hid (ed_bound x y)
        have HNN : Hid (¬ (x = [] ∧ y = [])) := Lib.hid (fun h => by have := h.1; subst this; simp at hx0)
        have C1 := Lib.hid (fun W (h : Blk W lp 3 [.int .i64 (ed x y : Int)]) => can_any (xt) (yt) lp (ed x y) W (by have := HXD.out; have := HYD.out; omega) (by have := HXD.out; have := HYD.out; omega) h)
        have C2 := Lib.hid (fun W (h : Blk W lp 3 [.int .i64 (ed x y : Int)]) => can_any x (yt) lp (ed x y) W (by have := HXD.out; have := HYD.out; omega) (by have := HXD.out; have := HYD.out; omega) h)
        have C3 := Lib.hid (fun W (h : Blk W lp 3 [.int .i64 (ed x y : Int)]) => can_any (xt) y lp (ed x y) W (by have := HXD.out; have := HYD.out; omega) (by have := HXD.out; have := HYD.out; omega) h)
        have HI0 := HI; have HL0 := HL; have HB0 := HB; have HZ0 := HZ
        clear HI HL HB HZ
        have N1 := Lib.hid (fun (h : bu x 0 ≠ bu y 0) (h1 : ed (xt) (yt) + 1 = ed x y) => (show nxt x y = (33, xt, yt) by
          have := nxt_sub (a := xt) (b := yt) h (by rw [← HX.out, ← HY.out]; exact h1)
          rwa [← HX.out, ← HY.out] at this))
        have N2 := Lib.hid (fun (h : ¬ (bu x 0 ≠ bu y 0 ∧ ed (xt) (yt) + 1 = ed x y)) (h1 : ed x (yt) + 1 = ed x y) => (show nxt x y = (43, x, yt) by
          have := nxt_ins (c := bu x 0) (d := bu y 0) (a := xt) (b := yt) (by rw [← HX.out, ← HY.out]; exact h) (by rw [← HX.out, ← HY.out]; exact h1)
          rwa [← HX.out, ← HY.out] at this))
        have N3 := Lib.hid (fun (h : ¬ (bu x 0 ≠ bu y 0 ∧ ed (xt) (yt) + 1 = ed x y)) (h1 : ¬ ed x (yt) + 1 = ed x y) (h2 : ed (xt) y + 1 = ed x y) => (show nxt x y = (45, xt, y) by
          have := nxt_del (c := bu x 0) (d := bu y 0) (a := xt) (b := yt) (by rw [← HX.out, ← HY.out]; exact h) (by rw [← HX.out, ← HY.out]; exact h1) (by rw [← HX.out, ← HY.out]; exact h2)
          rwa [← HX.out, ← HY.out] at this))
        have N4 := Lib.hid (fun (h : ¬ (bu x 0 ≠ bu y 0 ∧ ed (xt) (yt) + 1 = ed x y)) (h1 : ¬ ed x (yt) + 1 = ed x y) (h2 : ¬ ed (xt) y + 1 = ed x y) => (show nxt x y = (61, xt, yt) by
          have := nxt_keep (c := bu x 0) (d := bu y 0) (a := xt) (b := yt) (by rw [← HX.out, ← HY.out]; exact h) (by rw [← HX.out, ← HY.out]; exact h1) (by rw [← HX.out, ← HY.out]; exact h2)
          rwa [← HX.out, ← HY.out] at this))
        by_cases hcd : bu x 0 = bu y 0
        · have q1 : (((bu x 0).toNat : Int) != ((bu y 0).toNat : Int)) = false := by rw [hcd]; simp
          have NOT1 : Hid (¬ (bu x 0 ≠ bu y 0 ∧ ed (xt) (yt) + 1 = ed x y)) := Lib.hid (fun h => h.1 hcd)
          clear hcd C1
          go_wp2_with fail
          go_quiet (fail)
          have HI1 : Hid (Isb B B out (wr.drewN nq)) := HI0
          have HL1 : Hid (Blk (wr.drewN nq) lp 3 [.int .i64 (ed x y : Int)]) := HL0
          have HB1 : Hid (Below w.heap.size w (wr.drewN nq)) := Lib.hid (below_drewN HB0.out _)
          have HZ1 : Hid (B ≤ (wr.drewN nq).heap.size) := HZ0
          clear HI0 HL0 HB0 HZ0
          generalize wr.drewN nq = wq at *
          by_cases d2 : ed x (yt) + 1 = ed x y
          · have STEP := Lib.hid (nxt_one HNN.out (N2.out NOT1.out d2) (by decide))
            have D2 := Lib.hid d2
            clear N1 N2 N3 N4 d2 NOT1
            go_wp2_with fail
            refine (C2.out _ HL1.out).mono ?_
            rintro e w2 ⟨rfl, hbk⟩
            have HI2 := Lib.hid (isb_below HI1.out hbk)
            have HL2 := Lib.hid (HL1.out.below hbk HL1.out.lt)
            have HB2 := Lib.hid (HB1.out.trans (hbk.mono HB1.out.size))
            have HZ2 := Lib.hid (Nat.le_trans HZ1.out hbk.size)
            clear hbk HI1 HL1 HB1 HZ1 C2
            rw [decide_eq_true D2.out]
            have HS := Lib.hid (HT.out.symm.trans (congrArg (out ++ ·) STEP.out.1))
            have HE := Lib.hid STEP.out.2
            clear HT HX HY HED STEP
            go_wp2_with fail
            refine (writeByte_lit B B out 43 43 rfl _ HI2.out (by omega) HZ2.out).mono ?_
            rintro e w9 ⟨rfl, hi, hb, hk⟩
            have HI9 := Lib.hid hi
            have HL9 := Lib.hid (hk.blk HL2.out)
            have HB9 := Lib.hid (HB2.out.trans (hb.mono HBw.out))
            have HZ9 := Lib.hid (Nat.le_trans HZ2.out hb.size)
            clear hi hb hk HI2 HL2 HB2 HZ2
            have c0 : w9.cell? ⟨lp, 0, none⟩ = some (.int .i64 (ed x y : Int)) := by rw [HL9.out.cell]; rfl
            have c1 : w9.frozen? ⟨lp, 0, none⟩ = false := HL9.out.frozen 0
            have p1 : IntKind.i64.wrap ((ed x y : Int) - 1) = (ed (x) (yt) : Int) := by
              have h1 := HE.out
              have h2 := ed_bound (x) (yt)
              have := HXD.out; have := HYD.out
              try simp only [List.length_nil] at *
              rw [i64_in _ (by omega)]; omega
            clear HE
            go_wp2_with fail
            go_still_tail 5, (by kernel_rfl)
            change wpList _ _ _ _ _ w9.drew
            have HIt : Hid (Isb B B (out ++ [43]) w9.drew) := HI9
            have HLt : Hid (Blk w9.drew lp 3 [.int .i64 (ed x y : Int)]) := HL9
            have HBt : Hid (Below w.heap.size w w9.drew) := Lib.hid (below_drewN HB9.out 1)
            have HZt : Hid (B ≤ w9.drew.heap.size) := HZ9
            have c1t : w9.drew.frozen? ⟨lp, 0, none⟩ = false := c1
            have c0t : w9.drew.cell? ⟨lp, 0, none⟩ = some (.int .i64 (ed x y : Int)) := c0
            generalize w9.drew = wt at *
            clear c0 c1 HI9 HL9 HB9 HZ9
            go_wp2_with fail
            have HIu := Lib.hid (isb_set HIt.out HLt.out 0 (.int .i64 (ed (x) (yt) : Int)))
            have HLu := Lib.hid (HLt.out.set_ 0 (.int .i64 (ed (x) (yt) : Int)))
            have HBu := Lib.hid (HBt.out.setCell (p := ⟨lp, 0, none⟩) HLP.out (.int .i64 (ed (x) (yt) : Int)))
            go_roundg (x.length + yt.length)
            case measure => (have := HXD.out; have := HYD.out; (try simp only [List.length_nil] at *); omega)
            case rel => exact ⟨x, yt, out ++ [43], (by first | rfl | simp), rfl, rfl, (by have := HXD.out; have := HYD.out; (try simp only [List.length_nil] at *); omega), (by have := HXD.out; have := HYD.out; (try simp only [List.length_nil] at *); omega), (by rw [List.length_append, List.length_singleton]; have := HXD.out; have := HYD.out; (try simp only [List.length_nil] at *); omega), Lib.hid (by rw [HS.out]; simp), HIu, HLu, HBu, Lib.hid (by have := HZt.out; simp only [World.setCell, Array.size_modify]; exact this)⟩
          · have D2 := Lib.hid d2
            go_wp2_with fail
            refine (C2.out _ HL1.out).mono ?_
            rintro e w2 ⟨rfl, hbk⟩
            have HI2 := Lib.hid (isb_below HI1.out hbk)
            have HL2 := Lib.hid (HL1.out.below hbk HL1.out.lt)
            have HB2 := Lib.hid (HB1.out.trans (hbk.mono HB1.out.size))
            have HZ2 := Lib.hid (Nat.le_trans HZ1.out hbk.size)
            clear hbk HI1 HL1 HB1 HZ1 C2
            rw [decide_eq_false D2.out]
            by_cases d3 : ed (xt) y + 1 = ed x y
            · have STEP := Lib.hid (nxt_one HNN.out (N3.out NOT1.out d2 d3) (by decide))
              have D3 := Lib.hid d3
              clear N1 N2 N3 N4 d2 d3 NOT1
              go_wp2_with fail
              refine (C3.out _ HL2.out).mono ?_
              rintro e w3 ⟨rfl, hbk⟩
              have HI3 := Lib.hid (isb_below HI2.out hbk)
              have HL3 := Lib.hid (HL2.out.below hbk HL2.out.lt)
              have HB3 := Lib.hid (HB2.out.trans (hbk.mono HB2.out.size))
              have HZ3 := Lib.hid (Nat.le_trans HZ2.out hbk.size)
              clear hbk HI2 HL2 HB2 HZ2 C3
              rw [decide_eq_true D3.out]
              have HS := Lib.hid (HT.out.symm.trans (congrArg (out ++ ·) STEP.out.1))
              have HE := Lib.hid STEP.out.2
              clear HT HX HY HED STEP
              go_wp2_with fail
              refine (writeByte_lit B B out 45 45 rfl _ HI3.out (by omega) HZ3.out).mono ?_
              rintro e w9 ⟨rfl, hi, hb, hk⟩
              have HI9 := Lib.hid hi
              have HL9 := Lib.hid (hk.blk HL3.out)
              have HB9 := Lib.hid (HB3.out.trans (hb.mono HBw.out))
              have HZ9 := Lib.hid (Nat.le_trans HZ3.out hb.size)
              clear hi hb hk HI3 HL3 HB3 HZ3
              have c0 : w9.cell? ⟨lp, 0, none⟩ = some (.int .i64 (ed x y : Int)) := by rw [HL9.out.cell]; rfl
              have c1 : w9.frozen? ⟨lp, 0, none⟩ = false := HL9.out.frozen 0
              have p1 : IntKind.i64.wrap ((ed x y : Int) - 1) = (ed (xt) (y) : Int) := by
                have h1 := HE.out
                have h2 := ed_bound (xt) (y)
                have := HXD.out; have := HYD.out
                try simp only [List.length_nil] at *
                rw [i64_in _ (by omega)]; omega
              clear HE
              go_wp2_with fail
              go_still_tail 5, (by kernel_rfl)
              change wpList _ _ _ _ _ w9.drew
              have HIt : Hid (Isb B B (out ++ [45]) w9.drew) := HI9
              have HLt : Hid (Blk w9.drew lp 3 [.int .i64 (ed x y : Int)]) := HL9
              have HBt : Hid (Below w.heap.size w w9.drew) := Lib.hid (below_drewN HB9.out 1)
              have HZt : Hid (B ≤ w9.drew.heap.size) := HZ9
              have c1t : w9.drew.frozen? ⟨lp, 0, none⟩ = false := c1
              have c0t : w9.drew.cell? ⟨lp, 0, none⟩ = some (.int .i64 (ed x y : Int)) := c0
              generalize w9.drew = wt at *
              clear c0 c1 HI9 HL9 HB9 HZ9
              go_wp2_with fail
              have HIu := Lib.hid (isb_set HIt.out HLt.out 0 (.int .i64 (ed (xt) (y) : Int)))
              have HLu := Lib.hid (HLt.out.set_ 0 (.int .i64 (ed (xt) (y) : Int)))
              have HBu := Lib.hid (HBt.out.setCell (p := ⟨lp, 0, none⟩) HLP.out (.int .i64 (ed (xt) (y) : Int)))
              go_roundg (xt.length + y.length)
              case measure => (have := HXD.out; have := HYD.out; (try simp only [List.length_nil] at *); omega)
              case rel => exact ⟨xt, y, out ++ [45], (by first | rfl | simp), rfl, rfl, (by have := HXD.out; have := HYD.out; (try simp only [List.length_nil] at *); omega), (by have := HXD.out; have := HYD.out; (try simp only [List.length_nil] at *); omega), (by rw [List.length_append, List.length_singleton]; have := HXD.out; have := HYD.out; (try simp only [List.length_nil] at *); omega), Lib.hid (by rw [HS.out]; simp), HIu, HLu, HBu, Lib.hid (by have := HZt.out; simp only [World.setCell, Array.size_modify]; exact this)⟩
            · have STEP := Lib.hid (nxt_none HNN.out (N4.out NOT1.out d2 d3))
              have D3 := Lib.hid d3
              clear N1 N2 N3 N4 d2 d3 NOT1
              go_wp2_with fail
              refine (C3.out _ HL2.out).mono ?_
              rintro e w3 ⟨rfl, hbk⟩
              have HI3 := Lib.hid (isb_below HI2.out hbk)
              have HL3 := Lib.hid (HL2.out.below hbk HL2.out.lt)
              have HB3 := Lib.hid (HB2.out.trans (hbk.mono HB2.out.size))
              have HZ3 := Lib.hid (Nat.le_trans HZ2.out hbk.size)
              clear hbk HI2 HL2 HB2 HZ2 C3
              rw [decide_eq_false D3.out]
              have HS := Lib.hid (HT.out.symm.trans (congrArg (out ++ ·) STEP.out.1))
              have HE := Lib.hid STEP.out.2
              clear HT HX HY HED STEP
              go_wp2_with fail
              refine (writeByte_lit B B out 61 61 rfl _ HI3.out (by omega) HZ3.out).mono ?_
              rintro e w9 ⟨rfl, hi, hb, hk⟩
              have HI9 := Lib.hid hi
              have HL9 := Lib.hid (hk.blk HL3.out)
              have HB9 := Lib.hid (HB3.out.trans (hb.mono HBw.out))
              have HZ9 := Lib.hid (Nat.le_trans HZ3.out hb.size)
              clear hi hb hk HI3 HL3 HB3 HZ3
              go_wp2_with fail
              go_quiet (fail)
              go_wp2_with fail
              go_roundg (xt.length + yt.length)
              case measure => (have := HXD.out; have := HYD.out; (try simp only [List.length_nil] at *); omega)
              case rel => exact ⟨xt, yt, out ++ [61], (by first | rfl | simp), rfl, rfl, (by have := HXD.out; have := HYD.out; (try simp only [List.length_nil] at *); omega), (by have := HXD.out; have := HYD.out; (try simp only [List.length_nil] at *); omega), (by rw [List.length_append, List.length_singleton]; have := HXD.out; have := HYD.out; (try simp only [List.length_nil] at *); omega), Lib.hid (by rw [HS.out]; simp), Lib.hid HI9.out, Lib.hid (by rw [HE.out]; exact HL9.out), Lib.hid (below_drewN HB9.out _), Lib.hid HZ9.out⟩
        · have q1 : (((bu x 0).toNat : Int) != ((bu y 0).toNat : Int)) = true := by simp; intro h; exact hcd (UInt8.toNat.inj (by omega))
          have HCD := Lib.hid hcd
          clear hcd
          go_wp2_with fail
          go_still_tail 19, (by kernel_rfl)
          change wpList _ _ _ _ _ wr.drew
          have HI1 : Hid (Isb B B out wr.drew) := HI0
          have HL1 : Hid (Blk wr.drew lp 3 [.int .i64 (ed x y : Int)]) := HL0
          have HB1 : Hid (Below w.heap.size w wr.drew) := Lib.hid (below_drewN HB0.out 1)
          have HZ1 : Hid (B ≤ wr.drew.heap.size) := HZ0
          clear HI0 HL0 HB0 HZ0
          generalize wr.drew = wq at *
          by_cases d1 : ed (xt) (yt) + 1 = ed x y
          · have STEP := Lib.hid (nxt_one HNN.out (N1.out HCD.out d1) (by decide))
            have D1 := Lib.hid d1
            clear N1 N2 N3 N4 d1
            go_wp2_with fail
            refine (C1.out _ HL1.out).mono ?_
            rintro e w2 ⟨rfl, hbk⟩
            have HI2 := Lib.hid (isb_below HI1.out hbk)
            have HL2 := Lib.hid (HL1.out.below hbk HL1.out.lt)
            have HB2 := Lib.hid (HB1.out.trans (hbk.mono HB1.out.size))
            have HZ2 := Lib.hid (Nat.le_trans HZ1.out hbk.size)
            clear hbk HI1 HL1 HB1 HZ1 C1
            rw [decide_eq_true D1.out]
            have HS := Lib.hid (HT.out.symm.trans (congrArg (out ++ ·) STEP.out.1))
            have HE := Lib.hid STEP.out.2
            clear HT HX HY HED STEP
            go_wp2_with fail
            refine (writeByte_lit B B out 33 33 rfl _ HI2.out (by omega) HZ2.out).mono ?_
            rintro e w9 ⟨rfl, hi, hb, hk⟩
            have HI9 := Lib.hid hi
            have HL9 := Lib.hid (hk.blk HL2.out)
            have HB9 := Lib.hid (HB2.out.trans (hb.mono HBw.out))
            have HZ9 := Lib.hid (Nat.le_trans HZ2.out hb.size)
            clear hi hb hk HI2 HL2 HB2 HZ2
            have c0 : w9.cell? ⟨lp, 0, none⟩ = some (.int .i64 (ed x y : Int)) := by rw [HL9.out.cell]; rfl
            have c1 : w9.frozen? ⟨lp, 0, none⟩ = false := HL9.out.frozen 0
            have p1 : IntKind.i64.wrap ((ed x y : Int) - 1) = (ed (xt) (yt) : Int) := by
              have h1 := HE.out
              have h2 := ed_bound (xt) (yt)
              have := HXD.out; have := HYD.out
              try simp only [List.length_nil] at *
              rw [i64_in _ (by omega)]; omega
            clear HE
            go_wp2_with fail
            go_still_tail 8, (by kernel_rfl)
            change wpList _ _ _ _ _ w9.drew
            have HIt : Hid (Isb B B (out ++ [33]) w9.drew) := HI9
            have HLt : Hid (Blk w9.drew lp 3 [.int .i64 (ed x y : Int)]) := HL9
            have HBt : Hid (Below w.heap.size w w9.drew) := Lib.hid (below_drewN HB9.out 1)
            have HZt : Hid (B ≤ w9.drew.heap.size) := HZ9
            have c1t : w9.drew.frozen? ⟨lp, 0, none⟩ = false := c1
            have c0t : w9.drew.cell? ⟨lp, 0, none⟩ = some (.int .i64 (ed x y : Int)) := c0
            generalize w9.drew = wt at *
            clear c0 c1 HI9 HL9 HB9 HZ9
            go_wp2_with fail
            have HIu := Lib.hid (isb_set HIt.out HLt.out 0 (.int .i64 (ed (xt) (yt) : Int)))
            have HLu := Lib.hid (HLt.out.set_ 0 (.int .i64 (ed (xt) (yt) : Int)))
            have HBu := Lib.hid (HBt.out.setCell (p := ⟨lp, 0, none⟩) HLP.out (.int .i64 (ed (xt) (yt) : Int)))
            go_roundg (xt.length + yt.length)
            case measure => (have := HXD.out; have := HYD.out; (try simp only [List.length_nil] at *); omega)
            case rel => exact ⟨xt, yt, out ++ [33], (by first | rfl | simp), rfl, rfl, (by have := HXD.out; have := HYD.out; (try simp only [List.length_nil] at *); omega), (by have := HXD.out; have := HYD.out; (try simp only [List.length_nil] at *); omega), (by rw [List.length_append, List.length_singleton]; have := HXD.out; have := HYD.out; (try simp only [List.length_nil] at *); omega), Lib.hid (by rw [HS.out]; simp), HIu, HLu, HBu, Lib.hid (by have := HZt.out; simp only [World.setCell, Array.size_modify]; exact this)⟩
          · have NOT1 : Hid (¬ (bu x 0 ≠ bu y 0 ∧ ed (xt) (yt) + 1 = ed x y)) := Lib.hid (fun h => d1 h.2)
            have D1 := Lib.hid d1
            clear d1
            go_wp2_with fail
            refine (C1.out _ HL1.out).mono ?_
            rintro e w2 ⟨rfl, hbk⟩
            have HI2 := Lib.hid (isb_below HI1.out hbk)
            have HL2 := Lib.hid (HL1.out.below hbk HL1.out.lt)
            have HB2 := Lib.hid (HB1.out.trans (hbk.mono HB1.out.size))
            have HZ2 := Lib.hid (Nat.le_trans HZ1.out hbk.size)
            clear hbk HI1 HL1 HB1 HZ1 C1
            rw [decide_eq_false D1.out]
            by_cases d2 : ed x (yt) + 1 = ed x y
            · have STEP := Lib.hid (nxt_one HNN.out (N2.out NOT1.out d2) (by decide))
              have D2 := Lib.hid d2
              clear N1 N2 N3 N4 d2 NOT1
              go_wp2_with fail
              refine (C2.out _ HL2.out).mono ?_
              rintro e w3 ⟨rfl, hbk⟩
              have HI3 := Lib.hid (isb_below HI2.out hbk)
              have HL3 := Lib.hid (HL2.out.below hbk HL2.out.lt)
              have HB3 := Lib.hid (HB2.out.trans (hbk.mono HB2.out.size))
              have HZ3 := Lib.hid (Nat.le_trans HZ2.out hbk.size)
              clear hbk HI2 HL2 HB2 HZ2 C2
              rw [decide_eq_true D2.out]
              have HS := Lib.hid (HT.out.symm.trans (congrArg (out ++ ·) STEP.out.1))
              have HE := Lib.hid STEP.out.2
              clear HT HX HY HED STEP
              go_wp2_with fail
              refine (writeByte_lit B B out 43 43 rfl _ HI3.out (by omega) HZ3.out).mono ?_
              rintro e w9 ⟨rfl, hi, hb, hk⟩
              have HI9 := Lib.hid hi
              have HL9 := Lib.hid (hk.blk HL3.out)
              have HB9 := Lib.hid (HB3.out.trans (hb.mono HBw.out))
              have HZ9 := Lib.hid (Nat.le_trans HZ3.out hb.size)
              clear hi hb hk HI3 HL3 HB3 HZ3
              have c0 : w9.cell? ⟨lp, 0, none⟩ = some (.int .i64 (ed x y : Int)) := by rw [HL9.out.cell]; rfl
              have c1 : w9.frozen? ⟨lp, 0, none⟩ = false := HL9.out.frozen 0
              have p1 : IntKind.i64.wrap ((ed x y : Int) - 1) = (ed (x) (yt) : Int) := by
                have h1 := HE.out
                have h2 := ed_bound (x) (yt)
                have := HXD.out; have := HYD.out
                try simp only [List.length_nil] at *
                rw [i64_in _ (by omega)]; omega
              clear HE
              go_wp2_with fail
              go_still_tail 5, (by kernel_rfl)
              change wpList _ _ _ _ _ w9.drew
              have HIt : Hid (Isb B B (out ++ [43]) w9.drew) := HI9
              have HLt : Hid (Blk w9.drew lp 3 [.int .i64 (ed x y : Int)]) := HL9
              have HBt : Hid (Below w.heap.size w w9.drew) := Lib.hid (below_drewN HB9.out 1)
              have HZt : Hid (B ≤ w9.drew.heap.size) := HZ9
              have c1t : w9.drew.frozen? ⟨lp, 0, none⟩ = false := c1
              have c0t : w9.drew.cell? ⟨lp, 0, none⟩ = some (.int .i64 (ed x y : Int)) := c0
              generalize w9.drew = wt at *
              clear c0 c1 HI9 HL9 HB9 HZ9
              go_wp2_with fail
              have HIu := Lib.hid (isb_set HIt.out HLt.out 0 (.int .i64 (ed (x) (yt) : Int)))
              have HLu := Lib.hid (HLt.out.set_ 0 (.int .i64 (ed (x) (yt) : Int)))
              have HBu := Lib.hid (HBt.out.setCell (p := ⟨lp, 0, none⟩) HLP.out (.int .i64 (ed (x) (yt) : Int)))
              go_roundg (x.length + yt.length)
              case measure => (have := HXD.out; have := HYD.out; (try simp only [List.length_nil] at *); omega)
              case rel => exact ⟨x, yt, out ++ [43], (by first | rfl | simp), rfl, rfl, (by have := HXD.out; have := HYD.out; (try simp only [List.length_nil] at *); omega), (by have := HXD.out; have := HYD.out; (try simp only [List.length_nil] at *); omega), (by rw [List.length_append, List.length_singleton]; have := HXD.out; have := HYD.out; (try simp only [List.length_nil] at *); omega), Lib.hid (by rw [HS.out]; simp), HIu, HLu, HBu, Lib.hid (by have := HZt.out; simp only [World.setCell, Array.size_modify]; exact this)⟩
            · have D2 := Lib.hid d2
              go_wp2_with fail
              refine (C2.out _ HL2.out).mono ?_
              rintro e w3 ⟨rfl, hbk⟩
              have HI3 := Lib.hid (isb_below HI2.out hbk)
              have HL3 := Lib.hid (HL2.out.below hbk HL2.out.lt)
              have HB3 := Lib.hid (HB2.out.trans (hbk.mono HB2.out.size))
              have HZ3 := Lib.hid (Nat.le_trans HZ2.out hbk.size)
              clear hbk HI2 HL2 HB2 HZ2 C2
              rw [decide_eq_false D2.out]
              by_cases d3 : ed (xt) y + 1 = ed x y
              · have STEP := Lib.hid (nxt_one HNN.out (N3.out NOT1.out d2 d3) (by decide))
                have D3 := Lib.hid d3
                clear N1 N2 N3 N4 d2 d3 NOT1
                go_wp2_with fail
                refine (C3.out _ HL3.out).mono ?_
                rintro e w4 ⟨rfl, hbk⟩
                have HI4 := Lib.hid (isb_below HI3.out hbk)
                have HL4 := Lib.hid (HL3.out.below hbk HL3.out.lt)
                have HB4 := Lib.hid (HB3.out.trans (hbk.mono HB3.out.size))
                have HZ4 := Lib.hid (Nat.le_trans HZ3.out hbk.size)
                clear hbk HI3 HL3 HB3 HZ3 C3
                rw [decide_eq_true D3.out]
                have HS := Lib.hid (HT.out.symm.trans (congrArg (out ++ ·) STEP.out.1))
                have HE := Lib.hid STEP.out.2
                clear HT HX HY HED STEP
                go_wp2_with fail
                refine (writeByte_lit B B out 45 45 rfl _ HI4.out (by omega) HZ4.out).mono ?_
                rintro e w9 ⟨rfl, hi, hb, hk⟩
                have HI9 := Lib.hid hi
                have HL9 := Lib.hid (hk.blk HL4.out)
                have HB9 := Lib.hid (HB4.out.trans (hb.mono HBw.out))
                have HZ9 := Lib.hid (Nat.le_trans HZ4.out hb.size)
                clear hi hb hk HI4 HL4 HB4 HZ4
                have c0 : w9.cell? ⟨lp, 0, none⟩ = some (.int .i64 (ed x y : Int)) := by rw [HL9.out.cell]; rfl
                have c1 : w9.frozen? ⟨lp, 0, none⟩ = false := HL9.out.frozen 0
                have p1 : IntKind.i64.wrap ((ed x y : Int) - 1) = (ed (xt) (y) : Int) := by
                  have h1 := HE.out
                  have h2 := ed_bound (xt) (y)
                  have := HXD.out; have := HYD.out
                  try simp only [List.length_nil] at *
                  rw [i64_in _ (by omega)]; omega
                clear HE
                go_wp2_with fail
                go_still_tail 5, (by kernel_rfl)
                change wpList _ _ _ _ _ w9.drew
                have HIt : Hid (Isb B B (out ++ [45]) w9.drew) := HI9
                have HLt : Hid (Blk w9.drew lp 3 [.int .i64 (ed x y : Int)]) := HL9
                have HBt : Hid (Below w.heap.size w w9.drew) := Lib.hid (below_drewN HB9.out 1)
                have HZt : Hid (B ≤ w9.drew.heap.size) := HZ9
                have c1t : w9.drew.frozen? ⟨lp, 0, none⟩ = false := c1
                have c0t : w9.drew.cell? ⟨lp, 0, none⟩ = some (.int .i64 (ed x y : Int)) := c0
                generalize w9.drew = wt at *
                clear c0 c1 HI9 HL9 HB9 HZ9
                go_wp2_with fail
                have HIu := Lib.hid (isb_set HIt.out HLt.out 0 (.int .i64 (ed (xt) (y) : Int)))
                have HLu := Lib.hid (HLt.out.set_ 0 (.int .i64 (ed (xt) (y) : Int)))
                have HBu := Lib.hid (HBt.out.setCell (p := ⟨lp, 0, none⟩) HLP.out (.int .i64 (ed (xt) (y) : Int)))
                go_roundg (xt.length + y.length)
                case measure => (have := HXD.out; have := HYD.out; (try simp only [List.length_nil] at *); omega)
                case rel => exact ⟨xt, y, out ++ [45], (by first | rfl | simp), rfl, rfl, (by have := HXD.out; have := HYD.out; (try simp only [List.length_nil] at *); omega), (by have := HXD.out; have := HYD.out; (try simp only [List.length_nil] at *); omega), (by rw [List.length_append, List.length_singleton]; have := HXD.out; have := HYD.out; (try simp only [List.length_nil] at *); omega), Lib.hid (by rw [HS.out]; simp), HIu, HLu, HBu, Lib.hid (by have := HZt.out; simp only [World.setCell, Array.size_modify]; exact this)⟩
              · have STEP := Lib.hid (nxt_none HNN.out (N4.out NOT1.out d2 d3))
                have D3 := Lib.hid d3
                clear N1 N2 N3 N4 d2 d3 NOT1
                go_wp2_with fail
                refine (C3.out _ HL3.out).mono ?_
                rintro e w4 ⟨rfl, hbk⟩
                have HI4 := Lib.hid (isb_below HI3.out hbk)
                have HL4 := Lib.hid (HL3.out.below hbk HL3.out.lt)
                have HB4 := Lib.hid (HB3.out.trans (hbk.mono HB3.out.size))
                have HZ4 := Lib.hid (Nat.le_trans HZ3.out hbk.size)
                clear hbk HI3 HL3 HB3 HZ3 C3
                rw [decide_eq_false D3.out]
                have HS := Lib.hid (HT.out.symm.trans (congrArg (out ++ ·) STEP.out.1))
                have HE := Lib.hid STEP.out.2
                clear HT HX HY HED STEP
                go_wp2_with fail
                refine (writeByte_lit B B out 61 61 rfl _ HI4.out (by omega) HZ4.out).mono ?_
                rintro e w9 ⟨rfl, hi, hb, hk⟩
                have HI9 := Lib.hid hi
                have HL9 := Lib.hid (hk.blk HL4.out)
                have HB9 := Lib.hid (HB4.out.trans (hb.mono HBw.out))
                have HZ9 := Lib.hid (Nat.le_trans HZ4.out hb.size)
                clear hi hb hk HI4 HL4 HB4 HZ4
                go_wp2_with fail
                go_quiet (fail)
                go_wp2_with fail
                go_roundg (xt.length + yt.length)
                case measure => (have := HXD.out; have := HYD.out; (try simp only [List.length_nil] at *); omega)
                case rel => exact ⟨xt, yt, out ++ [61], (by first | rfl | simp), rfl, rfl, (by have := HXD.out; have := HYD.out; (try simp only [List.length_nil] at *); omega), (by have := HXD.out; have := HYD.out; (try simp only [List.length_nil] at *); omega), (by rw [List.length_append, List.length_singleton]; have := HXD.out; have := HYD.out; (try simp only [List.length_nil] at *); omega), Lib.hid (by rw [HS.out]; simp), Lib.hid HI9.out, Lib.hid (by rw [HE.out]; exact HL9.out), Lib.hid (below_drewN HB9.out _), Lib.hid HZ9.out⟩
end Go.Proofs.YtgmmlblefealjaaDoor
