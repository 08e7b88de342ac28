/- The document's join and crossed; pairs in memory. No condition. -/
import Derived.Test.YtchhbnnpannnhaaGreatDoorMg8
import Derived.Test.YtchhbnnpannnhaaGreatDoorMg10
import Derived.Deep.RegionHeld3
namespace Go.Proofs.YtchhbnnpannnhaaGreatDoor
open Go.RowKit IntWalk Go.Maps
set_option linter.unusedSimpArgs false
set_option linter.unusedVariables false
attribute [local go_sem] byte_at str_app

/-- Pairs: a row of the call's own (blocks from D on), each element a block of two numbers. -/
def PWc (w : World) (KC : List Value) (L : List (Nat × Nat)) : Prop := ∀ (j : Nat) (p : Nat × Nat), L[j]? = some p → ∃ b : Nat, KC[j]? = some (Value.slice (some ⟨b, 0, none⟩) 2 2) ∧ w.heap[b]? = some (Obj.cells #[.int .i64 (p.1 : Int), .int .i64 (p.2 : Int)] 3 (0, 0))
def PW (w : World) (D : Nat) (v : Value) (L : List (Nat × Nat)) : Prop := ∃ KC : List Value, KC.length = L.length ∧ w.ownsRow D 44 1 v KC.length KC ∧ PWc w KC L
section
variable {w w' : World} {D : Nat} {v : Value} {L : List (Nat × Nat)}
theorem PW.nil (w : World) (D : Nat) : PW w D (.slice none 0 0) [] := ⟨[], rfl, World.ownsRow_nil _ _ _ _, fun j p h => by simp at h⟩
theorem PW.shape (h : PW w D v L) : ∃ A c, v = .slice A L.length c := by
  obtain ⟨KC, h1, h2, _⟩ := h
  obtain ⟨A, c, e, _⟩ := own_shape h2
  exact ⟨A, c, by rw [e, h1]⟩
theorem PW.below (h : PW w D v L) {B : Nat} (hb : Below B w w') (hB : w.heap.size ≤ B) : PW w' D v L := by
  obtain ⟨KC, h1, h2, h3⟩ := h
  refine ⟨KC, h1, own_below h2 hb hB, fun j p hp => ?_⟩
  obtain ⟨b, e1, e2⟩ := h3 j p hp
  exact ⟨b, e1, (hb.block b (by have := (Array.getElem?_eq_some_iff.1 e2).1; omega)).trans e2⟩
theorem PW.base (h : PW w D v L) {D' : Nat} (hD : D' ≤ D) : PW w D' v L := by
  obtain ⟨KC, h1, h2, h3⟩ := h
  exact ⟨KC, h1, own_base h2 hD, h3⟩
theorem PW.drewN (h : PW w D v L) (n : Nat) : PW (w.drewN n) D v L := h
theorem PWc.grown {KC : List Value} {L : List (Nat × Nat)} {row : Option Nat} (h : PWc w KC L) (hg : w.grownBy w' row) (hr : ∀ k, row = some k → ∃ cs, w.heap[k]? = some (.cells cs 44 (0, 0))) : PWc w' KC L := fun j p hp => by
  obtain ⟨b, e1, e2⟩ := h j p hp
  refine ⟨b, e1, (hg.block b (Array.getElem?_eq_some_iff.1 e2).1 fun e => ?_).trans e2⟩
  obtain ⟨cs, hc⟩ := hr b e.symm
  rw [e2] at hc
  injection hc with hc; injection hc with _ hc _
  exact absurd hc (by decide)
theorem PWc.app {KC KC2 : List Value} {L L2 : List (Nat × Nat)} (h1 : KC.length = L.length) (h : PWc w KC L) (h2 : PWc w KC2 L2) : PWc w (KC ++ KC2) (L ++ L2) := fun j p hp => by
  rcases Nat.lt_or_ge j L.length with hl | hl
  · rw [List.getElem?_append_left hl] at hp
    obtain ⟨b, e1, e2⟩ := h j p hp
    exact ⟨b, by rw [List.getElem?_append_left (by omega)]; exact e1, e2⟩
  · rw [List.getElem?_append_right hl] at hp
    obtain ⟨b, e1, e2⟩ := h2 _ p hp
    exact ⟨b, by rw [List.getElem?_append_right (by omega), h1]; exact e1, e2⟩
theorem own_tyI {n : Nat} {xs : List Value} (h : w.ownsRow D 44 1 v n xs) : ∀ k, v.ownBlock = some k → ∃ cs, w.heap[k]? = some (.cells cs 44 (0, 0)) := fun k hk => by
  rcases h.2 with ⟨rfl, _⟩ | ⟨g, cap, cur, rfl, _, hg, _⟩
  · cases hk
  · obtain rfl : g = k := by injection hk
    exact ⟨_, hg⟩
/-- One pair more. -/
theorem PWc.snoc {KC : List Value} {x y : Nat} {v' : Value} {w8 : World} (h : PWc w KC L) (h1 : KC.length = L.length) (h2 : w.ownsRow D 44 1 v KC.length KC) (hD : D ≤ w.heap.size)
    (hgr : (w.alloc (.cells #[.int .i64 (x : Int), .int .i64 (y : Int)] 3)).grownBy w8 v.ownBlock) (hown : w8.ownsRow D 44 1 v' (KC ++ [Value.slice (some ⟨w.heap.size, 0, none⟩) 2 2]).length (KC ++ [Value.slice (some ⟨w.heap.size, 0, none⟩) 2 2])) :
    PW w8 D v' (L ++ [(x, y)]) := by
  refine ⟨_, by simp [h1], hown, ?_⟩
  have ha : PWc (w.alloc (.cells #[.int .i64 (x : Int), .int .i64 (y : Int)] 3)) (KC ++ [Value.slice (some ⟨w.heap.size, 0, none⟩) 2 2]) (L ++ [(x, y)]) := by
    refine PWc.app h1 (fun j p hp => ?_) (fun j p hp => ?_)
    · obtain ⟨b, e1, e2⟩ := h j p hp
      exact ⟨b, e1, (Below.heap_alloc _ _ _ (Array.getElem?_eq_some_iff.1 e2).1).trans e2⟩
    · match j, hp with
      | 0, hp =>
        have hp : p = (x, y) := by simpa using hp.symm
        subst hp
        exact ⟨w.heap.size, rfl, heap_alloc_new w _⟩
  refine ha.grown hgr fun k hk => ?_
  obtain ⟨cs, hc⟩ := own_tyI h2 k hk
  exact ⟨cs, (Below.heap_alloc _ _ _ (Array.getElem?_eq_some_iff.1 hc).1).trans hc⟩
theorem PWc.one {KC : List Value} (h : PWc w KC L) (h1 : KC.length = L.length) : ∀ u ∈ KC, u.oneCell' = true := fun u hu => by
  obtain ⟨j, hj, rfl⟩ := List.getElem_of_mem hu
  obtain ⟨p, hp⟩ : ∃ p, L[j]? = some p := ⟨_, List.getElem?_eq_getElem (by omega)⟩
  obtain ⟨b, e1, _⟩ := h j p hp
  rw [List.getElem?_eq_getElem hj] at e1
  rw [Option.some.inj e1]; rfl
/-- The j-th pair. -/
theorem PW.at_ (h : PW w D v L) {j : Nat} {p : Nat × Nat} (hp : L[j]? = some p) : ∃ g c b, v = .slice (some ⟨g, 0, none⟩) L.length c ∧ w.cell? ⟨g, j, none⟩ = some (.slice (some ⟨b, 0, none⟩) 2 2) ∧ w.cell? ⟨b, 0, none⟩ = some (.int .i64 (p.1 : Int)) ∧ w.cell? ⟨b, 1, none⟩ = some (.int .i64 (p.2 : Int)) := by
  obtain ⟨KC, h1, h2, h3⟩ := h
  obtain ⟨b, e1, e2⟩ := h3 j p hp
  have hj := (List.getElem?_eq_some_iff.1 hp).1
  rcases h2.2 with ⟨_, h0⟩ | ⟨g, cap, cur, hv, _, hg, _⟩
  · omega
  · subst hv
    have := h2.cells (g := g) rfl _ _ e1
    rw [Addr.add_lit, Nat.zero_add] at this
    exact ⟨g, cap, b, by rw [h1], this, by rw [cell_of_row w b 0 _ _ (0, 0) e2]; rfl, by rw [cell_of_row w b 1 _ _ (0, 0) e2]; rfl⟩
end
theorem gi_zsW {L : List Nat} {k x : Nat} (h : L[k]? = some x) : gi (zs L) k = (x : Int) := by
  obtain ⟨hk, rfl⟩ := List.getElem?_eq_some_iff.1 h
  rw [gi_eq (by simpa using hk)]; simp
theorem info_rowsW : (Tryz.prog.info? 44).map (fun i => (i.zero, i.size, i.bytes)) = some (some (.slice none 0 0), 1, 24) := by kernel_rfl
set_option maxHeartbeats 2000000 in
/-- The document's join. -/
theorem joinR_any (A A2 : Option Addr) (n m c c2 : Nat) (L L2 : List Nat) (w : World) (h : Ints w w.heap.size A n (zs L)) (h2 : Ints w w.heap.size A2 m (zs L2)) (hn : L.length + L2.length ≤ 1000) :
    Calls Tryz.prog 25 #[.slice A n c, .slice A2 m c2] w fun e w' => (∃ A' c', e = .returned (.slice A' (L ++ L2).length c') ∧ Ints w' w'.heap.size A' (L ++ L2).length (zs (L ++ L2))) ∧ Below w.heap.size w w' := by
  have H1 := Lib.hid h; have H2 := Lib.hid h2
  clear h h2
  go_enter Tryz.func25, Tryz.ntmps25
  go_wp2_with (first
    | (at_builtin; refine wpList_append_row rfl (.tmp 6) (.tmp 7) rfl w.heap.size (.slice none 0 0) [] L rfl (World.ownsRow_nil _ _ _ _) A n c w.heap.size rfl H1.out (by simp; omega) (Nat.le_refl _) ?_; intro v1 w1 hown1 hgr1 hb1; rw [List.nil_append] at hown1)
    | (at_builtin; refine wpList_append_row rfl (.tmp 9) (.tmp 10) rfl w.heap.size v1 L L2 rfl hown1 A2 m c2 w.heap.size rfl (H2.out.below hb1) (by omega) hb1.size ?_; intro v2 w2 hown2 hgr2 hb2))
  obtain ⟨A', c', rfl, hI⟩ := ints_of_own hown2
  go_ret
  exact ⟨⟨A', c', rfl, hI⟩, hb1.trans hb2⟩
theorem crs_take (a b : List Nat) {i x : Nat} (h : a[i]? = some x) : crs (a.take (i + 1)) b = crs (a.take i) b ++ b.map fun y => (x, y) := by
  unfold crs
  rw [List.take_add_one, h, List.flatMap_append]; simp
theorem map_take {b : List Nat} {k y x : Nat} (h : b[k]? = some y) : (b.take (k + 1)).map (fun y => (x, y)) = (b.take k).map (fun y => (x, y)) ++ [(x, y)] := by
  rw [List.take_add_one, h, List.map_append]; rfl
set_option maxRecDepth 100000 in
set_option maxHeartbeats 4000000 in
/-- The document's crossed. -/
theorem crossed_any (v : Value) (A A2 : Option Addr) (n m c c2 D0 : Nat) (L : List (Nat × Nat)) (a b : List Nat) (wo : World) (hv : PW wo D0 v L) (h : Ints wo wo.heap.size A n (zs a)) (h2 : Ints wo wo.heap.size A2 m (zs b)) (hn : L.length ≤ 20000) (ha : a.length ≤ 12) (hb : b.length ≤ 12) :
    Calls Tryz.prog 58 #[v, .slice A n c, .slice A2 m c2] wo fun e w' => (∃ v', e = .returned v' ∧ PW w' wo.heap.size v' (L ++ crs a b)) ∧ Below wo.heap.size wo w' := by
  obtain ⟨i1, hi1, hy0, hy1, hy2⟩ := info_parts info_rowsW
  obtain ⟨KC0, k1, k2, k3⟩ := hv
  obtain ⟨A0, c0, rfl, hcs⟩ := own_cs k2
  have hone := k3.one k1
  have H1 := Lib.hid h; have H2 := Lib.hid h2
  have hna : a.length = n := by have := h.1; simpa using this
  have hmb : b.length = m := by have := h2.1; simpa using this
  have HK1 := Lib.hid k1; have HK3 := Lib.hid k3; have HCS := Lib.hid hcs
  clear h h2 k1 k2 k3 hcs
  generalize hDD : wo.heap.size = D at *
  have HDD := Lib.hid hDD
  go_enter Tryz.func58, Tryz.ntmps58
  go_wp2_with (at_builtin; refine wpList_append_cells rfl (.tmp 10) (.tmp 11) _ rfl 44 i1 _ Tryz.underlying22 hi1 hy0 hy1 (by omega) rfl D (.slice none 0 0) [] KC0 rfl (World.ownsRow_nil _ _ _ _) A0 _ c0 rfl HCS.out hone (by have := HK1.out; simp; omega) (by rw [HDD.out]; exact Nat.le_refl _) ?_; intro v1 w1 hown1 hgr1 hb1 hl1; rw [List.nil_append] at hown1)
  have HP1 : Hid (PW w1 D v1 L) := Lib.hid ⟨KC0, HK1.out, hown1, HK3.out.grown hgr1 (fun k hk => by cases hk)⟩
  have HB1 := Lib.hid hb1
  clear hown1 hgr1 hb1 hl1 hDD
  go_loopg [7, 8] n (fun f ov iv wr => ∃ i : Nat, i + f = n ∧ iv = .int .i64 (i : Int) ∧ Hid (PW wr D ov (L ++ crs (a.take i) b)) ∧ Hid (Below D wo wr))
  case atStart => exact ⟨0, by omega, rfl, Lib.hid (by rw [show crs (a.take 0) b = [] from rfl, List.append_nil]; exact HP1.out), HB1⟩
  case round =>
    clear HP1 HB1
    obtain ⟨i, hif, rfl, HP, HBW⟩ := hrel
    by_cases hi : i < n
    · obtain ⟨f, rfl⟩ : ∃ f, gk = f + 1 := ⟨gk - 1, by omega⟩
      obtain ⟨x, hx⟩ : ∃ x, a[i]? = some x := ⟨_, List.getElem?_eq_getElem (by omega)⟩
      have HCT := Lib.hid (crs_take a b hx)
      have HXX := Lib.hid hx
      have z1 : (i : Int) < (n : Int) := by omega
      have z3 : IntKind.i64.wrap ((i : Int) + 1) = (i : Int) + 1 := IntWalk.i64_in _ (by omega)
      clear hx
      have HLL : Hid ((L ++ crs (a.take i) b).length ≤ 20144) := Lib.hid (by
        rw [List.length_append, crs_len]
        have h1 : (a.take i).length * b.length ≤ 12 * 12 := Nat.mul_le_mul (Nat.le_trans (List.length_take_le _ _) (by omega)) hb
        omega)
      generalize hL1 : L ++ crs (a.take i) b = L1 at *
      have HL1 := Lib.hid hL1
      clear hL1
      go_wp2_with fail
      go_loopg [7, 9] m (fun f ov kv wr => ∃ k : Nat, k + f = m ∧ kv = .int .i64 (k : Int) ∧ Hid (PW wr D ov (L1 ++ (b.take k).map fun y => (x, y))) ∧ Hid (Below D wo wr))
      case atStart => exact ⟨0, by omega, rfl, Lib.hid (by rw [show (b.take 0).map (fun y => (x, y)) = [] from rfl, List.append_nil]; exact HP.out), HBW⟩
      case round =>
        clear HP HBW
        obtain ⟨k, hkf, rfl, HP, HBW⟩ := hrel
        by_cases hk : k < m
        · obtain ⟨f2, rfl⟩ : ∃ f, gk = f + 1 := ⟨gk - 1, by omega⟩
          obtain ⟨y, hy⟩ : ∃ y, b[k]? = some y := ⟨_, List.getElem?_eq_getElem (by omega)⟩
          have HST := Lib.hid (map_take (x := x) hy)
          obtain ⟨b1, o1, rfl, hb1, hc1⟩ := (H1.out.below HBW.out).at_ hi
          rw [gi_zsW HXX.out] at hc1
          obtain ⟨b2, o2, rfl, hb2, hc2⟩ := (H2.out.below HBW.out).at_ hk
          rw [gi_zsW hy] at hc2
          have hDw : D ≤ wr.heap.size := by have := HBW.out.size; have := HDD.out; omega
          have hz1 : b1 < wr.heap.size := by omega
          have hz2 : b2 < wr.heap.size := by omega
          have z5 : (k : Int) < (m : Int) := by omega
          have z6 : IntKind.i64.wrap ((k : Int) + 1) = (k : Int) + 1 := IntWalk.i64_in _ (by omega)
          have hlen : (L1 ++ (b.take k).map fun y => (x, y)).length ≤ 20156 := by rw [List.length_append, List.length_map]; have := HLL.out; have := List.length_take_le k b; omega
          obtain ⟨KC, k1, k2, k3⟩ := HP.out
          have HK1 := Lib.hid k1
          have HK2 : Hid (wr.drew.ownsRow D 44 1 _ KC.length KC) := Lib.hid k2
          have HK3 : Hid (D ≤ wr.drew.heap.size) := Lib.hid hDw
          have HPD : Hid (PWc wr.drew KC _) := Lib.hid k3
          have HKL : Hid (KC.length ≤ 20156) := Lib.hid (by omega)
          clear hy k1 k2 k3 HP
          generalize (b.take k).map (fun y => (x, y)) = M1 at *
          go_wp2_with fail
          have s0 : wr.drew.cell? ⟨b1, o1 + i, none⟩ = some (.int .i64 (x : Int)) ∧ wr.drew.cell? ⟨b2, o2 + k, none⟩ = some (.int .i64 (y : Int)) := ⟨hc1, hc2⟩
          have s1 : (wr.drew.alloc (.cells #[.int .i64 (x : Int), .int .i64 (y : Int)] 3)).cell? ⟨b1, o1 + i, none⟩ = some (.int .i64 (x : Int)) ∧ (wr.drew.alloc (.cells #[.int .i64 (x : Int), .int .i64 (y : Int)] 3)).cell? ⟨b2, o2 + k, none⟩ = some (.int .i64 (y : Int)) := ⟨(World.cell?_alloc_lt wr.drew _ ⟨b1, o1 + i, none⟩ hz1).trans hc1, (World.cell?_alloc_lt wr.drew _ ⟨b2, o2 + k, none⟩ hz2).trans hc2⟩
          have s2 : ((wr.drew.alloc (.cells #[.int .i64 (x : Int), .int .i64 (y : Int)] 3)).alloc (.cells #[.slice (some ⟨wr.heap.size, 0, none⟩) 2 2] 44)).cell? ⟨b1, o1 + i, none⟩ = some (.int .i64 (x : Int)) ∧ ((wr.drew.alloc (.cells #[.int .i64 (x : Int), .int .i64 (y : Int)] 3)).alloc (.cells #[.slice (some ⟨wr.heap.size, 0, none⟩) 2 2] 44)).cell? ⟨b2, o2 + k, none⟩ = some (.int .i64 (y : Int)) := ⟨(World.cell?_alloc_lt (wr.drew.alloc (.cells #[.int .i64 (x : Int), .int .i64 (y : Int)] 3)) _ ⟨b1, o1 + i, none⟩ (by simp; omega)).trans s1.1, (World.cell?_alloc_lt (wr.drew.alloc (.cells #[.int .i64 (x : Int), .int .i64 (y : Int)] 3)) _ ⟨b2, o2 + k, none⟩ (by simp; omega)).trans s1.2⟩
          refine wp_region_held_drew (S := fun W => W.cell? ⟨b1, o1 + i, none⟩ = some (.int .i64 (x : Int)) ∧ W.cell? ⟨b2, o2 + k, none⟩ = some (.int .i64 (y : Int))) (by first | assumption | kernel_rfl | rfl) s0 (fun hH => ?_)
          refine wpAnyH_take (i := 0) (v := ?_) rfl (by kernel_rfl) (by kernel_rfl) (by kernel_rfl) (fun _ _ _ h => h) (Or.inl ⟨by rfl, ?_⟩) hH ?_
          rotate_left
          · intro W hSw; (try dsimp only at hSw); go_simp; try with_reducible rfl
          try simp only [Act.put, List.getElem_toArray, List.getElem_cons_zero, List.getElem_cons_succ, List.setIfInBounds_toArray, List.set_cons_zero, List.set_cons_succ]
          refine wpAnyH_take (i := 1) (v := ?_) rfl (by kernel_rfl) (by kernel_rfl) (by kernel_rfl) (fun _ _ _ h => h) (Or.inl ⟨by rfl, ?_⟩) hH ?_
          rotate_left
          · intro W hSw; (try dsimp only at hSw); go_simp; try with_reducible rfl
          try simp only [Act.put, List.getElem_toArray, List.getElem_cons_zero, List.getElem_cons_succ, List.setIfInBounds_toArray, List.set_cons_zero, List.set_cons_succ]
          refine wpAnyH_take (i := 2) (v := ?_) rfl (by kernel_rfl) (by kernel_rfl) (by kernel_rfl) (fun _ _ _ h => h) (Or.inl ⟨by rfl, ?_⟩) hH ?_
          rotate_left
          · intro W hSw; (try dsimp only at hSw); go_simp; try with_reducible rfl
          try simp only [Act.put, List.getElem_toArray, List.getElem_cons_zero, List.getElem_cons_succ, List.setIfInBounds_toArray, List.set_cons_zero, List.set_cons_succ]
          refine wpAnyH_take (i := 3) (v := ?_) rfl (by kernel_rfl) (by kernel_rfl) (by kernel_rfl) (fun _ _ _ h => h) (Or.inl ⟨by rfl, ?_⟩) hH ?_
          rotate_left
          · intro W hSw; (try dsimp only at hSw); go_simp; try with_reducible rfl
          try simp only [Act.put, List.getElem_toArray, List.getElem_cons_zero, List.getElem_cons_succ, List.setIfInBounds_toArray, List.set_cons_zero, List.set_cons_succ]
          refine wpAnyH_take (i := 4) (v := ?_) rfl (by kernel_rfl) (by kernel_rfl) (by kernel_rfl) (fun _ _ _ h => h) (Or.inl ⟨by rfl, ?_⟩) hH ?_
          rotate_left
          · intro W hSw; (try dsimp only at hSw); go_simp; try with_reducible rfl
          try simp only [Act.put, List.getElem_toArray, List.getElem_cons_zero, List.getElem_cons_succ, List.setIfInBounds_toArray, List.set_cons_zero, List.set_cons_succ]
          refine wpAnyH_take (i := 5) (v := ?_) rfl (by kernel_rfl) (by kernel_rfl) (by kernel_rfl) (fun _ _ _ h => h) (Or.inl ⟨by rfl, ?_⟩) hH ?_
          rotate_left
          · intro W hSw; (try dsimp only at hSw); go_simp; try with_reducible rfl
          try simp only [Act.put, List.getElem_toArray, List.getElem_cons_zero, List.getElem_cons_succ, List.setIfInBounds_toArray, List.set_cons_zero, List.set_cons_succ]
          refine wpAnyH_take (i := 6) (v := ?_) rfl (by kernel_rfl) (by kernel_rfl) (by kernel_rfl) (fun _ _ _ h => h) (Or.inl ⟨by rfl, ?_⟩) hH ?_
          rotate_left
          · intro W hSw; (try dsimp only at hSw); go_simp; try with_reducible rfl
          try simp only [Act.put, List.getElem_toArray, List.getElem_cons_zero, List.getElem_cons_succ, List.setIfInBounds_toArray, List.set_cons_zero, List.set_cons_succ]
          refine wpAnyH_take (i := 7) (v := ?_) rfl (by kernel_rfl) (by kernel_rfl) (by kernel_rfl) (fun _ _ _ h => h) (Or.inl ⟨by rfl, ?_⟩) hH ?_
          rotate_left
          · intro W hSw; (try dsimp only at hSw); go_simp; try with_reducible rfl
          try simp only [Act.put, List.getElem_toArray, List.getElem_cons_zero, List.getElem_cons_succ, List.setIfInBounds_toArray, List.set_cons_zero, List.set_cons_succ]
          refine wpAnyH_take (i := 8) (v := ?_) rfl (by kernel_rfl) (by kernel_rfl) (by kernel_rfl) (fun _ _ _ h => h) (Or.inl ⟨by rfl, ?_⟩) hH ?_
          rotate_left
          · intro W hSw; (try dsimp only at hSw); go_simp; try with_reducible rfl
          try simp only [Act.put, List.getElem_toArray, List.getElem_cons_zero, List.getElem_cons_succ, List.setIfInBounds_toArray, List.set_cons_zero, List.set_cons_succ]
          refine wpAnyH_ready (rs := [9]) (by kernel_rfl) (by simp) (AllReadyH.cons rfl (fun K hK => ?_) AllReadyH.nil)
          go_simp
          change K _ (wr.drew.alloc (.cells #[.int .i64 (x : Int), .int .i64 (y : Int)] 3))
          refine hK.out _ _ s1 (fun hH5 => ?_)
          clear hK K
          try simp only [Act.put, List.getElem_toArray, List.getElem_cons_zero, List.getElem_cons_succ, List.setIfInBounds_toArray, List.set_cons_zero, List.set_cons_succ]
          refine wpAnyH_ready (rs := [10]) (by kernel_rfl) (by simp) (AllReadyH.cons rfl (fun K hK => ?_) AllReadyH.nil)
          go_simp
          change K _ ((wr.drew.alloc (.cells #[.int .i64 (x : Int), .int .i64 (y : Int)] 3)).alloc (.cells #[.slice (some ⟨wr.heap.size, 0, none⟩) 2 2] 44))
          refine hK.out _ _ s2 (fun hH6 => ?_)
          clear hK K
          try simp only [Act.put, List.getElem_toArray, List.getElem_cons_zero, List.getElem_cons_succ, List.setIfInBounds_toArray, List.set_cons_zero, List.set_cons_succ]
          refine wpAnyH_ready (rs := [11]) (by kernel_rfl) (by simp) (AllReadyH.cons rfl (fun K hK => ?_) AllReadyH.nil)
          rw [if_pos (by rfl)]
          refine wp_append1g (w := (wr.drew.alloc (.cells #[.int .i64 (x : Int), .int .i64 (y : Int)] 3))) (.tmp 25) (.tmp 35) _ rfl 44 i1 _ Tryz.underlying22 hi1 hy0 hy1 (by omega) rfl D u7 KC (.slice (some ⟨wr.heap.size, 0, none⟩) 2 2) rfl rfl (by show Value.slice (some ⟨wr.heap.size + 1, 0, none⟩) 1 1 = _; rw [World.size_alloc]; rfl) (HK2.out.alloc _) (by have := HKL.out; omega) (by simp; omega) ?_
          intro v2 w8 hown2 hgr2 hloc2
          have s3 : w8.cell? ⟨b1, o1 + i, none⟩ = some (.int .i64 (x : Int)) ∧ w8.cell? ⟨b2, o2 + k, none⟩ = some (.int .i64 (y : Int)) := ⟨(World.cell?_of_block (a := ⟨b1, o1 + i, none⟩) (hgr2.block b1 (by simp; omega) (fun e => by have := own_lt HK2.out e.symm; omega))).trans s1.1, (World.cell?_of_block (a := ⟨b2, o2 + k, none⟩) (hgr2.block b2 (by simp; omega) (fun e => by have := own_lt HK2.out e.symm; omega))).trans s1.2⟩
          have HPN := Lib.hid (HPD.out.snoc (x := x) (y := y) (v := u7) HK1.out HK2.out HK3.out hgr2 hown2)
          try simp only [Act.put, List.getElem_toArray, List.getElem_cons_zero, List.getElem_cons_succ, List.setIfInBounds_toArray, List.set_cons_zero, List.set_cons_succ]
          refine hK.out _ _ s3 (fun hH7 => ?_)
          clear hK K
          try simp only [Act.put, List.getElem_toArray, List.getElem_cons_zero, List.getElem_cons_succ, List.setIfInBounds_toArray, List.set_cons_zero, List.set_cons_succ]
          refine wpAnyH_take (i := 12) (v := ?_) rfl (by kernel_rfl) (by kernel_rfl) (by kernel_rfl) (fun _ _ _ h => h) (Or.inl ⟨by rfl, ?_⟩) hH7 ?_
          rotate_left
          · intro W hSw; (try dsimp only at hSw); go_simp; try with_reducible rfl
          try simp only [Act.put, List.getElem_toArray, List.getElem_cons_zero, List.getElem_cons_succ, List.setIfInBounds_toArray, List.set_cons_zero, List.set_cons_succ]
          refine wpAnyH_done (by kernel_rfl) ?_ _
          have HBN := Lib.hid ((((below_drewN HBW.out 1).alloc (by show D ≤ wr.heap.size; omega) (.cells #[.int .i64 (x : Int), .int .i64 (y : Int)] 3)).alloc (by simp; omega) (.cells #[.slice (some ⟨wr.heap.size, 0, none⟩) 2 2] 44)))
          clear s0 s1 s2 s3 hown2 hloc2 hc1 hc2
          have HBX : Hid (Below D wo w8) := Lib.hid (((below_drewN HBW.out 1).alloc (by show D ≤ wr.heap.size; omega) (.cells #[.int .i64 (x : Int), .int .i64 (y : Int)] 3)).grown hgr2 (by simp; omega) (fun q hq => own_lt HK2.out hq))
          clear hgr2
          go_wp2_with fail
          go_roundg f2
          case measure => omega
          case rel => exact ⟨k + 1, by omega, by simp, by rw [HST.out, ← List.append_assoc]; exact HPN, HBX⟩
        · obtain rfl : k = m := by omega
          have HFU : Hid ((b.take k).map (fun y => (x, y)) = b.map fun y => (x, y)) := Lib.hid (by rw [List.take_of_length_le (by omega)])
          go_wp2_with fail
          go_roundg f
          case measure => omega
          case rel => exact ⟨i + 1, by omega, by simp, by rw [HCT.out, ← List.append_assoc, HL1.out, ← HFU.out]; exact HP, HBW⟩
    · obtain rfl : i = n := by omega
      have HFU : Hid (crs (a.take i) b = crs a b) := Lib.hid (by rw [List.take_of_length_le (by omega)])
      go_wp2_with fail
      go_ret
      exact ⟨⟨_, rfl, by rw [← HFU.out]; exact HP.out⟩, HBW.out⟩
end Go.Proofs.YtchhbnnpannnhaaGreatDoor
