/- The walks over package morse's Twice and Over: what they return. -/
import Derived.Test.YtaoppfcniifjhaaDoorMorseW
import Derived.Test.YtaoppfcniifjhaaDoorMorseP
import Derived.Test.YtaoppfcniifjhaaDoorQround
import Derived.IntWalk
namespace Go.Proofs.YtaoppfcniifjhaaDoor
open Go.RowKit Go.Shelf MorseM IntWalk
attribute [local go_sem] Oper.semAt_some

def Stop1 (d : Nat) (l : List UInt8) (h : Nat) (pre : List Nat) (W : World) : Prop :=
  ∃ ini i k, pre = ini ++ [i] ∧ (∀ p ∈ ini, noRep d (l.drop p)) ∧ 1 ≤ k ∧ 2 * k + d ≤ (l.drop i).length ∧ rep d (l.drop i) k = true ∧ noneTo d (l.drop i) k ∧ B3 h (i : Int) (k : Int) W

/-- What Twice and Over say. -/
def Says2 (d : Nat) (l : List UInt8) (w : World) (e : Ending) (w' : World) : Prop :=
  ((∃ i k : Nat, FoundAt d l i k ∧ e = .returned (.tuple #[.int .i64 i, .int .i64 k, .nilIface])) ∨ (NoneAt d l ∧ e = .returned (.tuple #[.int .i64 (-1), .int .i64 0, .nilIface]))) ∧ Below w.heap.size w w'
def InW (W : World) (m : List UInt8) (d : Nat) (i : Value) (wr : World) : Prop := ∃ k : Nat, 1 ≤ k ∧ k ≤ 201 ∧ i = .int .i64 (k : Int) ∧ noneTo d m k ∧ ∃ q, wr = W.drewN q

set_option maxRecDepth 100000 in
set_option maxHeartbeats 400000 in
theorem twice_ok (l : List UInt8) (w : World) (hl : l.length ≤ 200) :
    Calls Tryd.prog 9 #[S l] w (Says2 0 l w) := by
  have h1 : 1 ≤ 3 := by omega
  refine (callsIn_wide (n := 3)).1 ?_
  refine callsIn_of_wp_marks Tryd.func9 rfl trivial ?_ rfl
  simp only [Tryd.ntmps9, List.size_toArray, List.length_cons, List.length_nil, Nat.reduceAdd, Nat.reduceSub, Array.replicate_succ, Array.replicate_zero, List.push_toArray, List.append_toArray, List.nil_append, List.cons_append]
  gi_wp2_with fail
  refine ⟨trivial, ?_⟩
  have hA : ((((w.alloc (.cells #[.int .i64 0] 3)).alloc (.cells #[.int .i64 0] 3)).alloc (.cells #[.nilIface] 25)).alloc (.cells #[S l] 9)).cell? ⟨w.heap.size + 1 + 1 + 1, 0, none⟩ = some (S l) := by
    have := Boxed.new (((w.alloc (.cells #[.int .i64 0] 3)).alloc (.cells #[.int .i64 0] 3)).alloc (.cells #[.nilIface] 25)) 9 (S l)
    rw [show (((w.alloc (.cells #[.int .i64 0] 3)).alloc (.cells #[.int .i64 0] 3)).alloc (.cells #[.nilIface] 25)).heap.size = w.heap.size + 1 + 1 + 1 by simp] at this
    exact this.cell
  refine (callsIn_wide.2 (long1_no 200 l _ _ _ hA (by omega))).mono ?_
  clear hA
  rintro e w' ⟨rfl, rfl⟩
  gi_wp2_with fail
  refine ⟨trivial, ?_⟩
  refine (ends_in Fence.wide _ trivial rfl l _).mono ?_
  rintro e w' ⟨rfl, rfl⟩
  gi_wp2_with fail
  have hLB := loopW_below w l
  have hL3 := loopW_b3 w l
  have hLs := loopW_size w l
  have hLc : (loopW w l).cell? ⟨w.heap.size + 1 + 1 + 1 + 1, 0, none⟩ = some (S l) := by
    have := Boxed.new ((((w.alloc (.cells #[.int .i64 0] 3)).alloc (.cells #[.int .i64 0] 3)).alloc (.cells #[.nilIface] 25)).alloc (.cells #[S l] 9)) 9 (S l)
    rw [show ((((w.alloc (.cells #[.int .i64 0] 3)).alloc (.cells #[.int .i64 0] 3)).alloc (.cells #[.nilIface] 25)).alloc (.cells #[S l] 9)).heap.size = w.heap.size + 1 + 1 + 1 + 1 by simp] at this
    exact this.cell
  have hsl : ∀ x : Nat, (l.drop x).length ≤ 200 := fun x => by rw [List.length_drop]; omega
  change Code.wpIn _ _ _ _ _ _ (loopW w l)
  generalize hW0 : loopW w l = W0 at *
  refine wpIn_rangeFunc_ownG rfl h1 (gf := 20) (lb := #[.pointer (some ⟨w.heap.size + 1 + 1 + 1 + 1, 0, none⟩)]) rfl trivial (enters_of Tryd.func20 (by kernel_rfl) rfl)
    (ends_stops Fence.wide 2 trivial rfl (by omega) (w.heap.size + 1 + 1 + 1 + 1) (w.heap.size + 5) l (by omega) W0 (by omega) (by omega) hLc) belowK_t (belowK_b (by omega)) (Below.refl _ _) (fun _ => rfl)
    (fun pre W => ((∀ p ∈ pre, noRep 0 (l.drop p)) ∧ B3 w.heap.size 0 0 W) ∧ Below w.heap.size w W)
    (fun c pre W => (c = .ret ∧ Stop1 0 l w.heap.size pre W) ∧ Below w.heap.size w W)
    (OwnFrom.and (Own.from (fun s A B row hs hg hr => ⟨hs.1, hs.2.kept hg hr⟩) _) (ownFrom_below (Nat.le_refl _) (by omega)))
    (fun c => OwnFrom.and (Own.from (fun s A B row hs hg hr => by obtain ⟨hc, ini, i, k, e1, e2, e3, e4, e5, e6, e7⟩ := hs; exact ⟨hc, ini, i, k, e1, e2, e3, e4, e5, e6, e7.kept hg hr⟩) _) (ownFrom_below (Nat.le_refl _) (by omega)))
    ⟨⟨by simp, hL3⟩, hLB⟩
    (fun x => { tmps := #[S l, undef, .pointer (some ⟨w.heap.size, 0, none⟩), .pointer (some ⟨w.heap.size + 1, 0, none⟩), .pointer (some ⟨w.heap.size + 1 + 1, 0, none⟩), .nilIface, .int .i64 (x : Int), S (l.drop x), undef, S l, .slice (some ⟨w.heap.size + 1 + 1 + 1, 0, none⟩) 1 1, .nilIface, .nilIface, .bool false, undef, S l, .func (.func 20) #[] #[.pointer (some ⟨w.heap.size + 1 + 1 + 1 + 1, 0, none⟩)], .int .i64 (x : Int), S (l.drop x), undef, undef, undef, undef, undef, undef, undef, undef, undef, undef, undef, undef, undef, undef, undef, undef, undef, undef], defers := [] }) ?assign ?body ?done ?stop
  case assign =>
    intro l' x W K hK
    gi_wp2
    exact hK
  case body =>
    rintro l' pre x W ⟨⟨hp, hb3⟩, hB⟩ _
    have hm2 := hsl x
    generalize hm : l.drop x = m at *
    gi_wp2
    gi_loopw [8] (InW W m 0) (fun i _ => 202 - (intOf i).toNat)
    case atStart => exact ⟨1, by omega, by omega, rfl, noneTo_one _ _, 0, rfl⟩
    case round =>
      obtain ⟨k, hk1, hk2, rfl, hno, q, rfl⟩ := hrel
      by_cases hlt : 2 * k ≤ m.length
      · have e1 := str_to m k
        have e2 := str_mid m k (2 * k)
        have f2 : (0 : Int) ≤ 2 * (k : Int) := by omega
        have f3 : (2 * (k : Int)).toNat = 2 * k := by omega
        have f4 : (k : Int) ≤ 2 * (k : Int) := by omega
        have f5 : 2 * (k : Int) ≤ (m.length : Int) := by omega
        have f6 : k ≤ 2 * k := by omega
        have f7 : k ≤ m.length := by omega
        have f8 : (k : Int) ≤ (m.length : Int) := by omega
        gi_wp2
        refine wpIn_quiet_round (by kernel_rfl) (by kernel_rfl) (by kernel_rfl) ?_
        repeat (gi_big_quiet_step (fail))
        refine wpQuietIn_nil ?_
        intro _ hw'
        obtain ⟨nq, hw''⟩ := hw'
        subst hw''
        have hrr : (List.take k m == List.take (2 * k - k) (List.drop k m)) = rep 0 m k := by unfold rep; rw [show 2 * k - k = k by omega]; rfl
        rw [hrr]
        clear hrr e1 e2
        have hdd : ∀ a b, (W.drewN a).drewN b = W.drewN (a + b) := fun a b => by simp [World.drewN, Nat.add_assoc]
        rw [hdd]
        generalize q + nq = q'
        cases hr : rep 0 m k
        · gi_wp2
          go_roundw
          case rel => exact ⟨k + 1, by omega, by omega, by simp, noneTo_succ hno hr, q', rfl⟩
          case measure => simp [intOf]; omega
        · obtain ⟨b1, b2, b3⟩ := hb3.drewN q'
          have c1 := b1.cell
          have c2 := b2.cell
          have c3 := b3.cell
          have g1 := b1.frozen
          have g2 := b2.frozen
          have g3 := b3.frozen
          gi_wp2
          have hko := ((KeepsOthers.setCell (W.drewN q') ⟨w.heap.size, 0, none⟩ (.int .i64 (x : Int))).trans (KeepsOthers.setCell _ ⟨w.heap.size + 1, 0, none⟩ (.int .i64 (k : Int)))).trans (KeepsOthers.setCell _ ⟨w.heap.size + 1 + 1, 0, none⟩ .nilIface)
          have hkf := hko.from W0.heap.size
          exact ⟨⟨hkf.1, hkf.2⟩, ⟨rfl, pre, x, k, rfl, hp, hk1, by rw [hm]; exact hlt, by rw [hm]; exact hr, by rw [hm]; exact hno, (hb3.drewN q').set _ _⟩,
            (((below_drewN hB q').setCell (p := ⟨w.heap.size, 0, none⟩) (Nat.le_refl _) _).setCell (p := ⟨w.heap.size + 1, 0, none⟩) (Nat.le_add_right _ 1) _).setCell (p := ⟨w.heap.size + 1 + 1, 0, none⟩) (by show w.heap.size ≤ w.heap.size + 1 + 1; omega) _⟩
      · gi_wp2
        refine ⟨⟨(KeepsFrom.refl W0.heap.size W).1, (KeepsFrom.refl W0.heap.size W).2⟩, below_drewN (Below.refl _ W) q, ⟨fun p hp' => ?_, hb3.drewN q⟩, below_drewN hB q⟩
        rcases List.mem_append.1 hp' with h | h
        · exact hp p h
        · obtain rfl := List.mem_singleton.1 h
          rw [hm]
          exact noRep_of hno (by omega)
  case done =>
    rintro D ys W hD rfl ⟨⟨hne, hb3⟩, hB⟩ hK
    obtain ⟨b1, b2, b3⟩ := hb3
    have c1 := b1.cell
    have c2 := b2.cell
    have c3 := b3.cell
    have g1 := b1.frozen
    have g2 := b2.frozen
    have g3 := b3.frozen
    gi_wp2
    have hK' := (((KeepsOthers.setCell W ⟨w.heap.size, 0, none⟩ (.int .i64 (-1))).trans (KeepsOthers.setCell _ ⟨w.heap.size + 1, 0, none⟩ (.int .i64 0))).trans (KeepsOthers.setCell _ ⟨w.heap.size + 1 + 1, 0, none⟩ .nilIface)).same D _ hK rfl
    have hset := B3.set ⟨b1, b2, b3⟩ (-1) 0
    have hBs := ((hB.setCell (p := ⟨w.heap.size, 0, none⟩) (Nat.le_refl _) (.int .i64 (-1))).setCell (p := ⟨w.heap.size + 1, 0, none⟩) (Nat.le_add_right _ 1) (.int .i64 0)).setCell (p := ⟨w.heap.size + 1 + 1, 0, none⟩) (by show w.heap.size ≤ w.heap.size + 1 + 1; omega) .nilIface
    refine ⟨by simp, .inl ⟨_, _, rfl, run_takeDeferred hK', ?_⟩⟩
    obtain ⟨d1, d2, d3⟩ := hset.kept (grownBy_putObj' _ D (.deferred none)) (fun r e => by cases e; exact ⟨_, hK', rfl⟩)
    have e1 := d1.cell
    have e2 := d2.cell
    have e3 := d3.cell
    refine ⟨.tuple #[.int .i64 (-1), .int .i64 0, .nilIface], by simp [results, Tryd.f9, go_sem, e1, e2, e3], .inr ⟨?_, rfl⟩, hBs.trans (belowK_b (w := w) (Nat.le_refl _) _ D _ _ (by omega) hK' rfl rfl)⟩
    intro j hj
    exact hne j (List.mem_range.2 hj)
  case stop =>
    rintro D c pre W hD ⟨n', hn', rfl⟩ ⟨⟨rfl, ini, i, k', e1, e2, e3, e4, e5, e6, e7⟩, hB⟩ hK
    gi_wp2
    refine ⟨by simp, .inl ⟨_, _, rfl, run_takeDeferred hK, ?_⟩⟩
    obtain ⟨d1, d2, d3⟩ := e7.kept (grownBy_putObj' _ D (.deferred none)) (fun r e => by cases e; exact ⟨_, hK, rfl⟩)
    have c1 := d1.cell
    have c2 := d2.cell
    have c3 := d3.cell
    obtain ⟨n'', rfl⟩ : ∃ n'', n' = n'' + 1 := by
      cases n' with
      | zero => simp at e1
      | succ n'' => exact ⟨n'', rfl⟩
    rw [List.range_succ] at e1
    obtain ⟨rfl, e8⟩ := List.append_inj' e1 rfl
    obtain rfl : n'' = i := by simpa using e8
    refine ⟨.tuple #[.int .i64 (n'' : Int), .int .i64 (k' : Int), .nilIface], by simp [results, Tryd.f9, go_sem, c1, c2, c3], .inl ⟨n'', k', ⟨by omega, e3, e4, e5, e6, fun j hj => e2 j (List.mem_range.2 hj)⟩, rfl⟩, hB.trans (belowK_b (w := w) (Nat.le_refl _) W D _ _ (by omega) hK rfl rfl)⟩

set_option maxRecDepth 100000 in
set_option maxHeartbeats 400000 in
theorem twice_no (l : List UInt8) (w : World) (hl : 200 < l.length) :
    Calls Tryd.prog 9 #[S l] w fun e w' => e = .returned (.tuple #[.int .i64 0, .int .i64 0, .iface 36 (.int .i64 4)]) ∧ Below w.heap.size w w' := by
  go_enter Tryd.func9, Tryd.ntmps9
  go_wp2_with fail
  have hA : ((((w.alloc (.cells #[.int .i64 0] 3)).alloc (.cells #[.int .i64 0] 3)).alloc (.cells #[.nilIface] 25)).alloc (.cells #[S l] 9)).cell? ⟨w.heap.size + 1 + 1 + 1, 0, none⟩ = some (S l) := by
    have := Boxed.new (((w.alloc (.cells #[.int .i64 0] 3)).alloc (.cells #[.int .i64 0] 3)).alloc (.cells #[.nilIface] 25)) 9 (S l)
    rw [show (((w.alloc (.cells #[.int .i64 0] 3)).alloc (.cells #[.int .i64 0] 3)).alloc (.cells #[.nilIface] 25)).heap.size = w.heap.size + 1 + 1 + 1 by simp] at this
    exact this.cell
  have hb3 := (B3.new w).alloc (.cells #[S l] 9)
  have hB : Below w.heap.size w ((((w.alloc (.cells #[.int .i64 0] 3)).alloc (.cells #[.int .i64 0] 3)).alloc (.cells #[.nilIface] 25)).alloc (.cells #[S l] 9)) :=
    ((((Below.refl _ w).alloc (Nat.le_refl _) _).alloc (by simp) _).alloc (by simp; omega) _).alloc (by simp; omega) _
  refine (long1_yes 200 l _ _ _ hA (by omega)).mono ?_
  clear hA
  rintro e w' ⟨rfl, rfl⟩
  generalize ((((w.alloc (.cells #[.int .i64 0] 3)).alloc (.cells #[.int .i64 0] 3)).alloc (.cells #[.nilIface] 25)).alloc (.cells #[S l] 9)) = W at *
  obtain ⟨b1, b2, b3⟩ := hb3
  have c1 := b1.cell
  have c2 := b2.cell
  have c3 := b3.cell
  have g1 := b1.frozen
  have g2 := b2.frozen
  have g3 := b3.frozen
  go_wp2_with fail
  have d1 := ((((b1.set (.int .i64 0)).other (B' := w.heap.size + 1) (by omega) (.int .i64 0)).other (B' := w.heap.size + 1 + 1) (by omega) (.iface 36 (.int .i64 4)))).cell
  have d2 := ((((b2.other (B' := w.heap.size) (by omega) (.int .i64 0)).set (.int .i64 0)).other (B' := w.heap.size + 1 + 1) (by omega) (.iface 36 (.int .i64 4)))).cell
  have d3 := ((((b3.other (B' := w.heap.size) (by omega) (.int .i64 0)).other (B' := w.heap.size + 1) (by omega) (.int .i64 0)).set (.iface 36 (.int .i64 4)))).cell
  exact bodyPost_ret (v := .tuple #[.int .i64 0, .int .i64 0, .iface 36 (.int .i64 4)]) (by simp [results, Tryd.results9, go_sem, d1, d2, d3]) rfl
    ⟨rfl, ((hB.setCell (p := ⟨w.heap.size, 0, none⟩) (Nat.le_refl _) _).setCell (p := ⟨w.heap.size + 1, 0, none⟩) (Nat.le_add_right _ 1) _).setCell (p := ⟨w.heap.size + 1 + 1, 0, none⟩) (by show w.heap.size ≤ w.heap.size + 1 + 1; omega) _⟩

set_option maxRecDepth 100000 in
set_option maxHeartbeats 400000 in
theorem over_no (l : List UInt8) (w : World) (hl : 200 < l.length) :
    Calls Tryd.prog 10 #[S l] w fun e w' => e = .returned (.tuple #[.int .i64 0, .int .i64 0, .iface 36 (.int .i64 4)]) ∧ Below w.heap.size w w' := by
  go_enter Tryd.func10, Tryd.ntmps10
  go_wp2_with fail
  have hA : ((((w.alloc (.cells #[.int .i64 0] 3)).alloc (.cells #[.int .i64 0] 3)).alloc (.cells #[.nilIface] 25)).alloc (.cells #[S l] 9)).cell? ⟨w.heap.size + 1 + 1 + 1, 0, none⟩ = some (S l) := by
    have := Boxed.new (((w.alloc (.cells #[.int .i64 0] 3)).alloc (.cells #[.int .i64 0] 3)).alloc (.cells #[.nilIface] 25)) 9 (S l)
    rw [show (((w.alloc (.cells #[.int .i64 0] 3)).alloc (.cells #[.int .i64 0] 3)).alloc (.cells #[.nilIface] 25)).heap.size = w.heap.size + 1 + 1 + 1 by simp] at this
    exact this.cell
  have hb3 := (B3.new w).alloc (.cells #[S l] 9)
  have hB : Below w.heap.size w ((((w.alloc (.cells #[.int .i64 0] 3)).alloc (.cells #[.int .i64 0] 3)).alloc (.cells #[.nilIface] 25)).alloc (.cells #[S l] 9)) :=
    ((((Below.refl _ w).alloc (Nat.le_refl _) _).alloc (by simp) _).alloc (by simp; omega) _).alloc (by simp; omega) _
  refine (long1_yes 200 l _ _ _ hA (by omega)).mono ?_
  clear hA
  rintro e w' ⟨rfl, rfl⟩
  generalize ((((w.alloc (.cells #[.int .i64 0] 3)).alloc (.cells #[.int .i64 0] 3)).alloc (.cells #[.nilIface] 25)).alloc (.cells #[S l] 9)) = W at *
  obtain ⟨b1, b2, b3⟩ := hb3
  have c1 := b1.cell
  have c2 := b2.cell
  have c3 := b3.cell
  have g1 := b1.frozen
  have g2 := b2.frozen
  have g3 := b3.frozen
  go_wp2_with fail
  have d1 := ((((b1.set (.int .i64 0)).other (B' := w.heap.size + 1) (by omega) (.int .i64 0)).other (B' := w.heap.size + 1 + 1) (by omega) (.iface 36 (.int .i64 4)))).cell
  have d2 := ((((b2.other (B' := w.heap.size) (by omega) (.int .i64 0)).set (.int .i64 0)).other (B' := w.heap.size + 1 + 1) (by omega) (.iface 36 (.int .i64 4)))).cell
  have d3 := ((((b3.other (B' := w.heap.size) (by omega) (.int .i64 0)).other (B' := w.heap.size + 1) (by omega) (.int .i64 0)).set (.iface 36 (.int .i64 4)))).cell
  exact bodyPost_ret (v := .tuple #[.int .i64 0, .int .i64 0, .iface 36 (.int .i64 4)]) (by simp [results, Tryd.results10, go_sem, d1, d2, d3]) rfl
    ⟨rfl, ((hB.setCell (p := ⟨w.heap.size, 0, none⟩) (Nat.le_refl _) _).setCell (p := ⟨w.heap.size + 1, 0, none⟩) (Nat.le_add_right _ 1) _).setCell (p := ⟨w.heap.size + 1 + 1, 0, none⟩) (by show w.heap.size ≤ w.heap.size + 1 + 1; omega) _⟩
end Go.Proofs.YtaoppfcniifjhaaDoor
