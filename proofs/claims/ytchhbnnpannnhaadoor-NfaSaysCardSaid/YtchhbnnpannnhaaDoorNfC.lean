/- nfa.of's join: each of the one set before each of the other one. No condition. -/
import Derived.Test.YtchhbnnpannnhaaDoorNfB
import Derived.Test.YtchhbnnpannnhaaDoorNfM
namespace Go.Proofs.YtchhbnnpannnhaaDoor
open Go.RowKit Go.Maps
set_option linter.unusedVariables false

set_option maxRecDepth 100000 in
set_option maxHeartbeats 4000000 in
theorem join_any (a b bn bx : Nat) (Lf Lt : List Nat) (Ln : List (Nat × Nat)) (w : World) (ha : SI w a Lf) (hb : SI w b Lt) (hn : SJ w bn Ln) (hx : w.cell? ⟨bx, 0, none⟩ = some (.map (some bn))) (hxl : bx < w.heap.size) (hxn : bx ≠ bn) (han : a ≠ bn) (hbn : b ≠ bn) :
    Calls Tryd.prog 32 #[.map (some a), .map (some b), .pointer (some ⟨bx, 0, none⟩)] w fun e w' => e = .returned (.tuple #[]) ∧ SJ w' bn (Ln ++ crs Lf Lt) ∧ w.grownBy w' (some bn) := by
  have hal := ha.lt
  have hbl := hb.lt
  have hnl := hn.lt
  go_enter Tryd.func32, Tryd.ntmps32
  go_wp2_with (first
    | (at_range; refine wpList_set_range rfl _ 51 rfl _ keyI Tryd.underlying51 a Lf rfl ha ?_; intro w0 cnt0 hrg0 hg0 hs0)
    | go_in)
  go_frame
  go_loopw [9] (fun _ wr => ∃ (left : Nat → Prop) (cnt : Nat) (Lo : List (Nat × Nat)), RSet Tryd.prog 3 eI okI wr a w.heap.size Lf left cnt ∧ SJ wr bn Lo ∧ (∀ p, p ∈ Lo ↔ p ∈ Ln ∨ (p.1 ∈ Lf ∧ ¬ left p.1 ∧ p.2 ∈ Lt)) ∧ w.grownBy wr (some bn))
    (fun _ wr => wr.rangeLeft a w.heap.size)
  case atStart =>
    exact ⟨_, _, Ln, hrg0, hn.kept hg0 (by simp), fun p => ⟨.inl, fun h => h.elim id fun h => absurd h.1 h.2.1⟩, hg0.but _⟩
  case round =>
    obtain ⟨left, cnt, Lo, hrg, hout, hM, hgw⟩ := hrel
    go_wp2_with (first
      | (at_next; refine wpList_set_next rfl _ rfl keyI a w.heap.size Lf left cnt rfl hrg ?_ ?_)
      | go_in)
    · intro h0
      go_wp2
      go_end0
      refine ⟨rfl, hout.congr fun p => (hM p).trans ?_, hgw⟩
      rw [List.mem_append, mem_crs]
      exact ⟨fun h => h.imp id fun h => ⟨h.1, h.2.2⟩, fun h => h.imp id fun h => ⟨h.1, h0 _ h.1, h.2⟩⟩
    · intro x w1 cnt1 hxL hl hrg1 hlt hg1 hs1 hen
      have hout1 := hout.kept hg1 (fun e => by have := Option.some.inj e; omega)
      have hgw1 := hgw.andThen hg1 (fun j hj => .inl (by cases hj; exact Nat.le_refl _))
      have hb1 := hb.kept hgw1 (fun e => hbn (Option.some.inj e))
      have hr1 := hrg1.lt
      clear hs1
      have hokx := ha.1 x hxL
      have HX := Lib.hid hx
      clear hx
      go_wp2_with (first
        | (at_range; refine wpList_set_range rfl _ 51 rfl _ keyI Tryd.underlying51 b Lt rfl hb1 ?_; intro w2 cnt2 hrg2 hg2 hs2)
        | go_in)
      go_frame
      go_loopw [15] (fun _ wr => ∃ (left2 : Nat → Prop) (cnt3 : Nat) (Lp : List (Nat × Nat)), RSet Tryd.prog 3 eI okI wr b w1.heap.size Lt left2 cnt3 ∧ SJ wr bn Lp ∧ (∀ p, p ∈ Lp ↔ p ∈ Lo ∨ (p.1 = x ∧ p.2 ∈ Lt ∧ ¬ left2 p.2)) ∧
          RSet Tryd.prog 3 eI okI wr a w.heap.size Lf (fun z => left z ∧ z ≠ x) cnt1 ∧ w.grownBy wr (some bn))
        (fun _ wr => wr.rangeLeft b w1.heap.size)
      case atStart =>
        exact ⟨_, _, Lo, hrg2, hout1.kept hg2 (by simp), fun p => ⟨.inl, fun h => h.elim id fun h => absurd h.2.1 h.2.2⟩, hrg1.kept hg2 (by simp) (by simp), hgw1.andThen (hg2.but _) (fun j hj => .inr hj)⟩
      case round =>
        obtain ⟨left2, cnt3, Lp, hrg3, hout3, hM3, hra, hgw3⟩ := hrel
        go_wp2_with (first
          | (at_next; refine wpList_set_next rfl _ rfl keyI b w1.heap.size Lt left2 cnt3 rfl hrg3 ?_ ?_)
          | go_in)
        · intro h0
          go_wp2
          go_roundw
          case rel =>
            refine ⟨_, cnt1, Lp, hra, hout3, fun p => (hM3 p).trans ?_, hgw3⟩
            rw [hM p]
            constructor
            · rintro ((h | ⟨h1, h2, h3⟩) | ⟨rfl, h2, h3⟩)
              · exact .inl h
              · exact .inr ⟨h1, fun h => h2 h.1, h3⟩
              · exact .inr ⟨hxL, fun h => h.2 rfl, h2⟩
            · rintro (h | ⟨h1, h2, h3⟩)
              · exact .inl (.inl h)
              · by_cases e : p.1 = x
                · exact .inr ⟨e, h3, h0 _ h3⟩
                · exact .inl (.inr ⟨h1, fun h => h2 ⟨h, e⟩, h3⟩)
          case measure => rw [hra.left_eq, hrg.left_eq]; exact hlt
        · intro y w4 cnt4 hyL hl4 hrg4 hlt4 hg4 hs4 hen4
          have hout4 := hout3.kept hg4 (fun e => by have := Option.some.inj e; omega)
          have hgw4 := hgw3.andThen hg4 (fun j hj => .inl (by cases hj; have := hgw1.size; omega))
          have hra4 := hra.kept hg4 (fun e => by have := Option.some.inj e; omega) (fun e => by have := Option.some.inj e; omega)
          have hokJ : okJ (x, y) := ⟨hokx, hb.1 y hyL⟩
          have hx4 : w4.cell? ⟨bx, 0, none⟩ = some (.map (some bn)) := hgw4.cell HX.out (fun e => hxn (Option.some.inj e))
          go_wp2_with (first
            | (at_mapUpdate; refine wpList_set_store rfl _ _ _ 50 rfl _ keyJ Tryd.underlying50 bn Lp rfl hout4 (x, y) hokJ rfl rfl ?_; intro w5 hout5 hg5; go_frame)
            | go_in)
          have hrg5 := hrg4.kept hg5 (fun e => hbn (Option.some.inj e)) (fun e => by have := Option.some.inj e; omega)
          have hra5 := hra4.kept hg5 (fun e => han (Option.some.inj e)) (fun e => by have := Option.some.inj e; omega)
          go_roundw
          case rel =>
            refine ⟨_, cnt4, _, hrg5, hout5, fun p => ?_, hra5, hgw4.andThen hg5 (fun j hj => .inr hj)⟩
            rw [List.mem_append, hM3 p, List.mem_singleton]
            constructor
            · rintro ((h | ⟨h1, h2, h3⟩) | rfl)
              · exact .inl h
              · exact .inr ⟨h1, h2, fun h => h3 h.1⟩
              · exact .inr ⟨rfl, hyL, fun h => h.2 rfl⟩
            · rintro (h | ⟨h1, h2, h3⟩)
              · exact .inl (.inl h)
              · by_cases e : p.2 = y
                · exact .inr (Prod.ext h1 e)
                · exact .inl (.inr ⟨h1, h2, fun h => h3 ⟨h, e⟩⟩)
          case measure => rw [hrg5.left_eq, hrg3.left_eq]; exact hlt4
end Go.Proofs.YtchhbnnpannnhaaDoor
