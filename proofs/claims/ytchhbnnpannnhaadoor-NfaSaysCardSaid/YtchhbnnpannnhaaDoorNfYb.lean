/- What stays where a row of rows grows; the document's join, typed. No condition. -/
import Derived.Test.YtchhbnnpannnhaaDoorNfY
namespace Go.Proofs.YtchhbnnpannnhaaDoor
open Go.RowKit IntWalk Go.Maps
set_option linter.unusedSimpArgs false
set_option linter.unusedVariables false
attribute [local go_sem] byte_at str_app

/-- All blocks of numbers stay. -/
def KeepI (W W' : World) : Prop := ∀ (k : Nat) (cu : Array Value), W.heap[k]? = some (Obj.cells cu 3 (0, 0)) → W'.heap[k]? = some (Obj.cells cu 3 (0, 0))
section
variable {W W' W2 : World} {v : Value} {L : List Nat}
theorem KeepW.int (h : KeepW W W') : KeepI W W' := fun k cu hk => h k cu _ hk (by decide)
theorem KeepI.trans (h : KeepI W W') (h2 : KeepI W' W2) : KeepI W W2 := fun k cu hk => h2 k cu (h k cu hk)
theorem KeepI.grown {row : Option Nat} (hg : W.grownBy W' row) (hr : ∀ k, row = some k → ∃ cs, W.heap[k]? = some (.cells cs 27 (0, 0))) : KeepI W W' := fun k cu hk => by
  refine (hg.block k (Array.getElem?_eq_some_iff.1 hk).1 fun e => ?_).trans hk
  obtain ⟨cs, hc⟩ := hr k e.symm
  rw [hk] at hc
  injection hc with hc; injection hc with _ hc _
  exact absurd hc (by decide)
theorem IW.keepI (h : IW W v L) (hk : KeepI W W') : IW W' v L := by
  obtain ⟨A, c, e, h2⟩ := h
  refine ⟨A, c, e, fun hn => ?_⟩
  obtain ⟨b, off, cu, e1, e2, e3⟩ := h2 hn
  exact ⟨b, off, cu, e1, hk b cu e2, e3⟩
theorem PW.cells {D n c : Nat} {A : Option Addr} {L : List (Nat × Nat)} (h : PW W D (.slice A n c) L) : ∃ KC, KC.length = L.length ∧ Cs W A n KC ∧ PWc W KC L ∧ ∀ u ∈ KC, u.oneCell' = true := by
  obtain ⟨KC, h1, h2, h3⟩ := h
  obtain ⟨A', c', e, hc⟩ := own_cs h2
  injection e with e1 e2 e3
  subst e1 e2 e3
  exact ⟨KC, h1, hc, h3, h3.one h1⟩
end
/-- What ways has in memory: the two ways below, and the one that is being made. -/
structure WT (w0 : World) (ga gb gw : Nat) (AF AS AQ BF BS BQ : Value) (FSs LS GS MS : List Nat) (nu mu : Bool) (nn mm kk : Nat) (n : Bool) (f s q : Value) (W : World) : Prop where
  a : Wc W ga nu AF AS AQ nn
  b : Wc W gb mu BF BS BQ mm
  w : Wc W gw n f s q kk
  z : W.heap[w0.heap.size + 1]? = some wz
  bl : Below w0.heap.size w0 W
  fa : IW W AF FSs
  sa : IW W AS LS
  fb : IW W BF GS
  sb : IW W BS MS
  lt : w0.heap.size + 1 + 1 < ga ∧ ga < gb ∧ gb < gw
section
variable {w0 W W' : World} {ga gb gw : Nat} {AF AS AQ BF BS BQ : Value} {FSs LS GS MS : List Nat} {nu mu n n' : Bool} {nn mm kk : Nat} {f s q u : Value}
theorem WT.far (h : WT w0 ga gb gw AF AS AQ BF BS BQ FSs LS GS MS nu mu nn mm kk n f s q W) (i : Nat) (u : Value) {n' : Bool} {f' s' q' : Value} (hw : Wc (W.setCell ⟨gw, i, none⟩ u) gw n' f' s' q' kk) : WT w0 ga gb gw AF AS AQ BF BS BQ FSs LS GS MS nu mu nn mm kk n' f' s' q' (W.setCell ⟨gw, i, none⟩ u) := by
  have hl := h.lt
  have hk := KeepW.set (i := i) (u := u) h.w
  exact ⟨h.a.far (by omega), h.b.far (by omega), hw, (Below.heap_setCell _ _ _ _ (by show w0.heap.size + 1 ≠ gw; omega)).trans h.z, h.bl.setCell (p := ⟨gw, i, none⟩) (by show w0.heap.size ≤ gw; omega) u, h.fa.keep hk, h.sa.keep hk, h.fb.keep hk, h.sb.keep hk, hl⟩
theorem WT.set0 (h : WT w0 ga gb gw AF AS AQ BF BS BQ FSs LS GS MS nu mu nn mm kk n f s q W) : WT w0 ga gb gw AF AS AQ BF BS BQ FSs LS GS MS nu mu nn mm kk n' f s q (W.setCell ⟨gw, 0, none⟩ (.bool n')) := h.far 0 _ h.w.set0
theorem WT.set1 (h : WT w0 ga gb gw AF AS AQ BF BS BQ FSs LS GS MS nu mu nn mm kk n f s q W) : WT w0 ga gb gw AF AS AQ BF BS BQ FSs LS GS MS nu mu nn mm kk n u s q (W.setCell ⟨gw, 1, none⟩ u) := h.far 1 _ h.w.set1
theorem WT.set2 (h : WT w0 ga gb gw AF AS AQ BF BS BQ FSs LS GS MS nu mu nn mm kk n f s q W) : WT w0 ga gb gw AF AS AQ BF BS BQ FSs LS GS MS nu mu nn mm kk n f u q (W.setCell ⟨gw, 2, none⟩ u) := h.far 2 _ h.w.set2
theorem WT.set3 (h : WT w0 ga gb gw AF AS AQ BF BS BQ FSs LS GS MS nu mu nn mm kk n f s q W) : WT w0 ga gb gw AF AS AQ BF BS BQ FSs LS GS MS nu mu nn mm kk n f s u (W.setCell ⟨gw, 3, none⟩ u) := h.far 3 _ h.w.set3
theorem WT.below (h : WT w0 ga gb gw AF AS AQ BF BS BQ FSs LS GS MS nu mu nn mm kk n f s q W) (hb : Below W.heap.size W W') : WT w0 ga gb gw AF AS AQ BF BS BQ FSs LS GS MS nu mu nn mm kk n f s q W' := by
  have hl := h.lt
  have hw := h.w.lt
  have hk := KeepW.of hb (Nat.le_refl _)
  exact ⟨h.a.below hb (by omega), h.b.below hb (by omega), h.w.below hb hw, (hb.block _ (by omega)).trans h.z, h.bl.trans (hb.mono h.bl.size), h.fa.keep hk, h.sa.keep hk, h.fb.keep hk, h.sb.keep hk, hl⟩
theorem WT.cells (h : WT w0 ga gb gw AF AS AQ BF BS BQ FSs LS GS MS nu mu nn mm kk n f s q W) : (W.cell? ⟨ga, 0, none⟩ = some (.bool nu) ∧ W.cell? ⟨ga, 1, none⟩ = some AF ∧ W.cell? ⟨ga, 2, none⟩ = some AS) ∧ (W.cell? ⟨gb, 0, none⟩ = some (.bool mu) ∧ W.cell? ⟨gb, 1, none⟩ = some BF ∧ W.cell? ⟨gb, 2, none⟩ = some BS) ∧
    (W.cell? ⟨gw, 0, none⟩ = some (.bool n) ∧ W.cell? ⟨gw, 1, none⟩ = some f ∧ W.cell? ⟨gw, 2, none⟩ = some s ∧ W.cell? ⟨gw, 3, none⟩ = some q ∧ W.cell? ⟨gw, 4, none⟩ = some (.int .i64 (kk : Int))) ∧
    (W.frozen? ⟨gw, 0, none⟩ = false ∧ W.frozen? ⟨gw, 1, none⟩ = false ∧ W.frozen? ⟨gw, 2, none⟩ = false ∧ W.frozen? ⟨gw, 3, none⟩ = false) := by
  obtain ⟨⟨a0, a1, a2, _, _⟩, _⟩ := h.a.all
  obtain ⟨⟨b0, b1, b2, _, _⟩, _⟩ := h.b.all
  obtain ⟨c, f0, f1, f2, f3, _⟩ := h.w.all
  exact ⟨⟨a0, a1, a2⟩, ⟨b0, b1, b2⟩, c, f0, f1, f2, f3⟩
end
set_option maxHeartbeats 2000000 in
/-- The document's join. -/
theorem joinW_any (A A2 : Option Addr) (n m c c2 : Nat) (L L2 : List Nat) (w : World) (h : IW w (.slice A n c) L) (h2 : IW w (.slice A2 m c2) L2) (hn : L.length + L2.length ≤ 1000) :
    Calls Tryd.prog 29 #[.slice A n c, .slice A2 m c2] w fun e w' => (∃ v', e = .returned v' ∧ IW w' v' (L ++ L2)) ∧ Below w.heap.size w w' := by
  obtain ⟨h, rfl⟩ := h.ints
  obtain ⟨h2, rfl⟩ := h2.ints
  have H1 := Lib.hid h; have H2 := Lib.hid h2
  clear h h2
  go_enter Tryd.func29, Tryd.ntmps29
  go_wp2_with (first
    | (at_builtin; refine wpList_append_row rfl (.tmp 6) (.tmp 7) rfl w.heap.size (.slice none 0 0) [] L rfl (World.ownsRow_nil _ _ _ _) A _ c w.heap.size rfl H1.out (by simp; omega) (Nat.le_refl _) ?_; intro v1 w1 hown1 hgr1 hb1; rw [List.nil_append] at hown1)
    | (at_builtin; refine wpList_append_row rfl (.tmp 9) (.tmp 10) rfl w.heap.size v1 L L2 rfl hown1 A2 _ c2 w.heap.size rfl (H2.out.below hb1) (by omega) hb1.size ?_; intro v2 w2 hown2 hgr2 hb2))
  go_ret
  exact ⟨⟨_, rfl, IW.own hown2⟩, hb1.trans hb2⟩
end Go.Proofs.YtchhbnnpannnhaaDoor
