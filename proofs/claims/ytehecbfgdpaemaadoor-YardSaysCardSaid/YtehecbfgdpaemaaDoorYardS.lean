/- yard.Post's state in memory, and its closure pop. -/
import Derived.Test.YtehecbfgdpaemaaDoorYardV
import Derived.Test.YtehecbfgdpaemaaDoorBuildF
namespace Go.Proofs.YtehecbfgdpaemaaDoor
open Go.RowKit YardM IntWalk
attribute [local go_sem] byte_at str_app

/-- A byte as a value. -/
def bv (c : UInt8) : Value := .int .u8 (c.toNat : Int)
/-- The builder b holds o; the variable x holds the waiting signs (the top last); the blocks kp are as told, and no one's. -/
structure PS (B b x : Nat) (kp : List (Nat × Obj)) (o st : List UInt8) (G : Option Nat) (wv : Value) (w : World) : Prop where
  bld : Bld B b G o w
  var : w.heap[x]? = some (.cells #[wv] 43 (0, 0))
  own : w.ownsRow B 5 1 wv st.length (st.reverse.map bv)
  gx : G ≠ some x
  vb : wv.ownBlock ≠ some b
  vx : wv.ownBlock ≠ some x
  gv : ∀ y, G = some y → wv.ownBlock ≠ some y
  xb : x ≠ b
  Bx : B ≤ x
  kept : ∀ p ∈ kp, w.heap[p.1]? = some p.2 ∧ G ≠ some p.1 ∧ wv.ownBlock ≠ some p.1 ∧ p.1 ≠ b ∧ p.1 ≠ x
section
variable {B b x : Nat} {kp : List (Nat × Obj)} {o st : List UInt8} {G : Option Nat} {wv : Value} {w : World}
theorem PS.hB (h : PS B b x kp o st G wv w) : B ≤ w.heap.size := by have := h.bld.1; have := h.bld.lt; omega
theorem PS.xlt (h : PS B b x kp o st G wv w) : x < w.heap.size := (Array.getElem?_eq_some_iff.1 h.var).1
theorem own_stay {w w' : World} {B e size n : Nat} {v : Value} {xs : List Value} (h : w.ownsRow B e size v n xs) (hs : ∀ y, v.ownBlock = some y → w'.heap[y]? = w.heap[y]?) : w'.ownsRow B e size v n xs := by
  refine ⟨h.1, ?_⟩
  rcases h.2 with h2 | ⟨g, cap, cur, rfl, hg, hh, r⟩
  · exact .inl h2
  · exact .inr ⟨g, cap, cur, rfl, hg, (hs g rfl).trans hh, r⟩
theorem PS.alloc (h : PS B b x kp o st G wv w) (ob : Obj) : PS B b x kp o st G wv (w.alloc ob) where
  bld := h.bld.stay (Below.heap_alloc w ob b h.bld.lt) (fun y hy => Below.heap_alloc w ob y (h.bld.glt hy).1)
  var := (Below.heap_alloc w ob x h.xlt).trans h.var
  own := h.own.alloc ob
  gx := h.gx
  vb := h.vb
  vx := h.vx
  gv := h.gv
  xb := h.xb
  Bx := h.Bx
  kept := fun p hp => by
    obtain ⟨h1, h2⟩ := h.kept p hp
    exact ⟨(Below.heap_alloc w ob p.1 (Array.getElem?_eq_some_iff.1 h1).1).trans h1, h2⟩
theorem PS.add (h : PS B b x kp o st G wv w) (ob : Obj) : PS B b x ((w.heap.size, ob) :: kp) o st G wv (w.alloc ob) :=
  { h.alloc ob with
    kept := fun p hp => by
      rcases List.mem_cons.1 hp with rfl | hp
      · have h1 := h.bld.lt
        have h2 := h.xlt
        refine ⟨heap_alloc_new w ob, fun e => ?_, fun e => ?_, by show w.heap.size ≠ b; omega, by show w.heap.size ≠ x; omega⟩
        · have := (h.bld.glt e).1; simp at this
        · have := (h.own.lt _ e).2; simp at this
      · exact (h.alloc ob).kept p hp }
theorem PS.less (h : PS B b x kp o st G wv w) {kp' : List (Nat × Obj)} (hs : ∀ p ∈ kp', p ∈ kp) : PS B b x kp' o st G wv w :=
  { h with kept := fun p hp => h.kept p (hs p hp) }
theorem PS.drewN (h : PS B b x kp o st G wv w) (n : Nat) : PS B b x kp o st G wv (w.drewN n) := ⟨h.bld, h.var, h.own, h.gx, h.vb, h.vx, h.gv, h.xb, h.Bx, h.kept⟩
theorem PS.write (h : PS B b x kp o st G wv w) {o' : List UInt8} {G' : Option Nat} {w' : World} (hb : Bld B b G' o' w') (hf : Fr b G w w') (hG : G' = G ∨ ∃ y, G' = some y ∧ w.heap.size ≤ y) : PS B b x kp o' st G' wv w' where
  bld := hb
  var := (hf.block x h.xlt h.xb (fun e => h.gx e.symm)).trans h.var
  own := own_stay h.own fun y hy => hf.block y (h.own.lt y hy).2 (fun e => h.vb (by rw [← e]; exact hy)) (fun e => h.gv y e.symm hy)
  gx := by
    rcases hG with rfl | ⟨y, rfl, hy⟩
    · exact h.gx
    · have := h.xlt; intro e; injection e with e; omega
  vb := h.vb
  vx := h.vx
  gv := fun y hy => by
    rcases hG with rfl | ⟨z, rfl, hz⟩
    · exact h.gv y hy
    · injection hy with hy; subst hy
      intro e
      have := (h.own.lt _ e).2; omega
  xb := h.xb
  Bx := h.Bx
  kept := fun p hp => by
    obtain ⟨h1, h2, h3, h4, h5⟩ := h.kept p hp
    have hl := (Array.getElem?_eq_some_iff.1 h1).1
    refine ⟨(hf.block p.1 hl h4 (fun e => h2 e.symm)).trans h1, ?_, h3, h4, h5⟩
    rcases hG with rfl | ⟨z, rfl, hz⟩
    · exact h2
    · intro e; injection e with e; omega
/-- The variable is set anew. -/
theorem PS.setv (h : PS B b x kp o st G wv w) {w1 : World} {wv' : Value} {st' : List UInt8} (hg : w.grownBy w1 wv.ownBlock) (hown : w1.ownsRow B 5 1 wv' st'.length (st'.reverse.map bv))
    (hat : wv'.ownBlock = wv.ownBlock ∨ ∃ y, wv'.ownBlock = some y ∧ w.heap.size ≤ y) : PS B b x kp o st' G wv' (w1.setCell ⟨x, 0, none⟩ wv') := by
  have hx1 : w1.heap[x]? = some (.cells #[wv] 43 (0, 0)) := (hg.block x h.xlt (fun e => h.vx e.symm)).trans h.var
  have hx := h.xlt
  have hbl := h.bld.lt
  have hb1 : w1.heap[b]? = w.heap[b]? := hg.block b hbl (fun e => h.vb e.symm)
  have hs : ∀ k, k ≠ x → (w1.setCell ⟨x, 0, none⟩ wv').heap[k]? = w1.heap[k]? := fun k hk => Below.heap_setCell w1 _ _ k hk
  have hv : ∀ y, y < w.heap.size → wv.ownBlock ≠ some y → wv'.ownBlock ≠ some y := fun y hy hne => by
    rcases hat with e | ⟨z, e, hz⟩
    · rw [e]; exact hne
    · rw [e]; intro e'; injection e' with e'; omega
  exact {
    bld := h.bld.stay ((hs b h.xb.symm).trans hb1) (fun y hy => (hs y (fun e => h.gx (by rw [← e]; exact hy))).trans (hg.block y (h.bld.glt hy).1 (fun e => h.gv y hy e.symm)))
    var := by simp [World.setCell, Array.getElem?_modify, hx1]
    own := own_stay hown fun y hy => hs y (fun e => hv x hx h.vx (by rw [← e]; exact hy))
    gx := h.gx
    vb := hv b hbl h.vb
    vx := hv x hx h.vx
    gv := fun y hy => hv y (h.bld.glt hy).1 (h.gv y hy)
    xb := h.xb
    Bx := h.Bx
    kept := fun p hp => by
      obtain ⟨h1, h2, h3, h4, h5⟩ := h.kept p hp
      have hl := (Array.getElem?_eq_some_iff.1 h1).1
      exact ⟨((hs p.1 h5).trans (hg.block p.1 hl (fun e => h3 e.symm))).trans h1, h2, hv p.1 hl h3, h4, h5⟩ }
theorem grown_refl (w : World) (r : Option Nat) : w.grownBy w r := ⟨rfl, rfl, rfl, Nat.le_refl _, fun _ _ _ => rfl⟩
theorem PS.varc (h : PS B b x kp o st G wv w) : w.cell? ⟨x, 0, none⟩ = some wv ∧ w.frozen? ⟨x, 0, none⟩ = false := by
  refine ⟨by rw [Lib.cell_of_heap h.var]; rfl, Lib.frozen_of_heap h.var 0⟩
/-- The waiting signs, the top told. -/
theorem PS.top {c : UInt8} (h : PS B b x kp o (c :: st) G wv w) : ∃ g cp, wv = .slice (some ⟨g, 0, none⟩) (st.length + 1) cp ∧ st.length + 1 ≤ cp ∧ w.cell? ⟨g, st.length, none⟩ = some (.int .u8 (c.toNat : Int)) ∧ w.ownsRow B 5 1 (.slice (some ⟨g, 0, none⟩) st.length cp) st.length (st.reverse.map bv) := by
  have hown := h.own
  rw [List.length_cons] at hown
  obtain ⟨g, cp, rfl, h1, h2, h3⟩ := own_some hown (by omega)
  have e1 : ((c :: st).reverse.map bv) = st.reverse.map bv ++ [bv c] := by simp
  rw [e1] at hown
  have hl : (st.reverse.map bv).length = st.length := by simp
  refine ⟨g, cp, rfl, h3, ?_, ownsRow_pop (n := st.length) (last := [bv c]) (by rw [hl, Nat.mul_one]) hown⟩
  have := hown.cells (g := g) rfl st.length (bv c) (by rw [List.getElem?_append_right (by omega), hl, Nat.sub_self]; rfl)
  rwa [Addr.add_lit, Nat.zero_add] at this
theorem PS.none_ (h : PS B b x kp o [] G wv w) : ∃ A cp, wv = .slice A 0 cp := by
  obtain ⟨A, c, e, _⟩ := own_shape h.own
  exact ⟨A, c, e⟩
end

set_option maxRecDepth 100000 in
set_option maxHeartbeats 1000000 in
theorem pop_any {B b x : Nat} {kp : List (Nat × Obj)} {o st : List UInt8} {G : Option Nat} {wv : Value} {w : World} {c : UInt8} (h : PS B b x kp o (c :: st) G wv w) (hlen : o.length ≤ 100000) (hst : st.length ≤ 100000) :
    Calls Tryd.prog 22 #[.pointer (some ⟨b, 0, none⟩), .pointer (some ⟨x, 0, none⟩)] w fun e w' => e = .returned (.tuple #[]) ∧ ∃ G' wv', PS B b x kp (o ++ [c]) st G' wv' w' ∧ Below B w w' := by
  obtain ⟨g, cp, rfl, hcp, htop, hpop⟩ := h.top
  obtain ⟨c1, c2⟩ := h.varc
  have hN : st.length ≤ 100000 := hst
  have HP := Lib.hid hpop
  have HH := Lib.hid h
  have HB := Lib.hid h.hB
  clear hpop h
  generalize hn : st.length = n at *
  go_enter Tryd.func22, Tryd.ntmps22
  go_wp2_with fail
  refine (writeByte_fr B b G o c _ HH.out.bld (by omega) HB.out).mono ?_
  rintro e w1 ⟨rfl, G', hb', hf, hG⟩
  have hps := HH.out.write hb' hf hG
  have hbel : Below B w w1 := hf.below HB.out HH.out.bld.1 (fun y hy => (HH.out.bld.glt hy).2)
  obtain ⟨d1, d2⟩ := hps.varc
  have hpop1 : w1.ownsRow B 5 1 (.slice (some ⟨g, 0, none⟩) n cp) n (st.reverse.map bv) := own_stay HP.out fun y hy => by
    injection hy with hy; subst hy
    have hv : (Value.slice (some ⟨g, 0, none⟩) (n + 1) cp).ownBlock = some g := rfl
    exact hf.block g (HH.out.own.lt g hv).2 (fun e => HH.out.vb (by rw [← e]; exact hv)) (fun e => HH.out.gv g e.symm hv)
  have hfin := hps.setv (st' := st) (wv' := .slice (some ⟨g, 0, none⟩) n cp) (grown_refl w1 _) (by rw [hn]; exact hpop1) (.inl rfl)
  have HFIN := Lib.hid hfin
  have HBE := Lib.hid (hbel.setCell (p := ⟨x, 0, none⟩) HH.out.Bx (.slice (some ⟨g, 0, none⟩) n cp))
  clear hfin hbel hps hpop1 hb' hf hG
  go_wp2_with fail
  go_end0
  exact ⟨rfl, _, _, HFIN.out, HBE.out⟩
end Go.Proofs.YtehecbfgdpaemaaDoor
