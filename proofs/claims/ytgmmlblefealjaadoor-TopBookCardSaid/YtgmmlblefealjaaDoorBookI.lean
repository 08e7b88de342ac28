/- The iterator strings.Lines: it yields a text's lines in their order. No condition. -/
import Derived.Test.YtgmmlblefealjaaDoorRangeC
import Derived.Test.YtgmmlblefealjaaDoorBookO
import Derived.Shelf.Abstract
import Derived.Shelf.RegionOpen
import Derived.WalkKit
import Derived.OwnWalkIn
import Derived.TacticsInMore
import Derived.LoopNIn
import Derived.LoopIn
import Derived.BigRegionIn
import Derived.Sort.LoopGhostIn
import Derived.Lib.IndexLaws
namespace Go.Proofs.YtgmmlblefealjaaDoor
open Go.RowKit Go.Shelf IntWalk
attribute [local go_sem] Oper.semAt_some

theorem ix_none {l : List UInt8} (h : Lib.indexByte l 10 = -1) : ∀ c ∈ l, c ≠ 10 := by
  intro c hc e
  subst e
  obtain ⟨k, hk⟩ := List.mem_iff_getElem?.1 hc
  exact Lib.indexByte_none h k hk
theorem ix_some {l : List UInt8} {i : Nat} (h : Lib.indexByte l 10 = i) : i < l.length ∧ chunks l = l.take (i + 1) :: chunks (l.drop (i + 1)) := by
  obtain ⟨h1, h2⟩ := Lib.indexByte_some h
  have hl : i < l.length := (List.getElem?_eq_some_iff.1 h1).1
  refine ⟨hl, ?_⟩
  have e : l = l.take i ++ 10 :: l.drop (i + 1) := by
    rw [List.getElem?_eq_some_iff] at h1
    obtain ⟨_, h1⟩ := h1
    conv => lhs; rw [← List.take_append_drop i l, List.drop_eq_getElem_cons hl, h1]
  have hno : ∀ c ∈ l.take i, c ≠ 10 := by
    intro c hc e'
    subst e'
    obtain ⟨k, hk⟩ := List.mem_iff_getElem?.1 hc
    have hki : k < i := by have := (List.getElem?_eq_some_iff.1 hk).1; rw [List.length_take] at this; omega
    rw [List.getElem?_take, if_pos hki] at hk
    exact h2 k hki hk
  have := chunks_cut (l.take i) (l.drop (i + 1)) hno
  rw [← e] at this
  rw [this, List.take_succ_eq_append_getElem hl]
  rw [List.getElem?_eq_getElem hl] at h1
  rw [Option.some.inj h1]

set_option maxRecDepth 100000 in
set_option maxHeartbeats 2000000 in
theorem lines1_in (n : Nat) (hn : 1 ≤ n) (Bs : Nat) (T : List UInt8) (hT : T.length ≤ 1000000) (w : World) (hBs : w.heap[Bs]? = some (.cells #[S T] 9)) :
    Yields Fence.wide n Tryd.prog 40 #[.pointer (some ⟨Bs, 0, none⟩)] (fun x : List UInt8 => #[S x]) ⟨Bs, 0, none⟩ (chunks T) w := by
  intro lp J Jx W hW hfree hY h0
  have hBW : W.heap[Bs]? = some (.cells #[S T] 9) := (hW.block Bs (Array.getElem?_eq_some_iff.1 hBs).1).trans hBs
  have HY := Lib.hid hY; have HBW := Lib.hid hBW; have H0 := Lib.hid h0; have HFR := Lib.hid hfree
  clear hY hBW hBs h0 hW hfree
  refine callsIn_of_wp Tryd.func40 rfl trivial ?_ rfl
  simp only [Tryd.ntmps40, List.size_toArray, List.length_cons, List.length_nil, Nat.reduceAdd, Nat.reduceSub, Array.replicate_succ, Array.replicate_zero, List.push_toArray, List.append_toArray, List.nil_append, List.cons_append]
  gi_wp2
  gi_loopg [] T.length (fun f wr => ∃ pre rest : List _, chunks T = pre ++ chunks rest ∧ rest.length ≤ f ∧ rest.length ≤ T.length ∧ wr.heap[Bs]? = some (.cells #[S rest] 9) ∧ J pre wr)
  case atStart => exact ⟨[], T, rfl, Nat.le_refl _, Nat.le_refl _, HBW.out, H0.out⟩
  case round =>
    obtain ⟨pre, rest, hch, hrl, hrT, hbx, hJ⟩ := hrel
    have c0 : wr.cell? ⟨Bs, 0, none⟩ = some (S rest) := by rw [Lib.cell_of_heap hbx]; rfl
    have z0 : wr.frozen? ⟨Bs, 0, none⟩ = false := Lib.frozen_of_heap hbx 0
    have HJ := Lib.hid hJ; have HX := Lib.hid hbx; have HC := Lib.hid hch
    clear hJ hbx hch
    by_cases hr : rest = []
    · subst hr
      gi_wp2
      go_end0
      have := HC.out
      rw [show chunks [] = [] from rfl, List.append_nil] at this
      exact ⟨⟨_, rfl⟩, .inl (by rw [this]; exact HJ.out)⟩
    · have hl0 : 0 < rest.length := List.length_pos_iff.2 hr
      have hl0' : (0 : Int) < (rest.length : Int) := by omega
      have HR := Lib.hid hr
      clear hr
      gi_wp2
      refine ⟨trivial, ?_⟩
      refine (callsIn_wide.2 (Tryd.strings_IndexByte ⟨rest.toArray⟩ 10 _)).mono ?_
      rintro e w' ⟨rfl, rfl⟩
      rw [show Lib.indexByte (ByteArray.mk rest.toArray).data.toList (Int.toNat 10).toUInt8 = Lib.indexByte rest 10 from rfl]
      have hge := Lib.indexByte_ge rest 10
      by_cases hz : Lib.indexByte rest 10 = -1
      · have hno := ix_none hz
        rw [hz]
        obtain ⟨fn, tmps, assign, body, hy, hR⟩ := HY.out pre rest (w'.setCell ⟨Bs, 0, none⟩ (.string ⟨#[]⟩)) ((HFR.out _ _ HJ.out).1 _) ⟨[], by rw [HC.out, chunks_one rest hno HR.out, List.append_nil]⟩
        have HCH := Lib.hid (chunks_one rest hno HR.out)
        clear hno hz hge
        gi_wp2
        refine hR.mono ?_
        rintro e W3 (⟨rfl, hJ3, hk3⟩ | ⟨rfl, hJx3⟩)
        · have HJ3 := Lib.hid hJ3
          have HX3 : Hid (W3.heap[Bs]? = some (.cells #[S []] 9)) := Lib.hid (hk3.trans (by simp [World.setCell, Array.getElem?_modify, HX.out]))
          clear hJ3 hk3 hR hy
          gi_wp2
          gi_roundg 0
          case measure => omega
          case rel => exact ⟨pre ++ [rest], [], by rw [HC.out, HCH.out]; simp [chunks], Nat.zero_le _, Nat.zero_le _, HX3.out, HJ3.out⟩
        · have HJ3 := Lib.hid hJx3
          clear hJx3 hR hy
          gi_wp2
          refine bodyPost_ret (results_none rfl _ _ _) rfl ?_
          exact ⟨⟨_, rfl⟩, .inr ⟨_, ⟨[], by rw [HC.out, HCH.out, List.append_nil]⟩, HJ3.out⟩⟩
      · obtain ⟨i, hi⟩ : ∃ i : Nat, Lib.indexByte rest 10 = i := ⟨(Lib.indexByte rest 10).toNat, by omega⟩
        obtain ⟨hil, hch⟩ := ix_some hi
        rw [hi]
        have HCH := Lib.hid hch
        have f1 : IntKind.i64.wrap ((i : Int) + 1) = (i : Int) + 1 := i64_in _ (by omega)
        have f2 : (0 : Int) ≤ (i : Int) + 1 := by omega
        have f3 : (i : Int) + 1 ≤ (rest.length : Int) := by omega
        have f4 : ((i : Int) + 1).toNat = i + 1 := by omega
        have f5 : (0 : Int) ≤ (i : Int) := by omega
        have hx1 := str_to rest (i + 1)
        have hx2 := str_from rest (i + 1)
        clear hi hz hge hch
        obtain ⟨fn, tmps, assign, body, hy, hR⟩ := HY.out pre (rest.take (i + 1)) (w'.setCell ⟨Bs, 0, none⟩ (S (rest.drop (i + 1)))).drew ((HFR.out _ _ ((HFR.out _ _ HJ.out).1 _)).2) ⟨chunks (rest.drop (i + 1)), by rw [HC.out, HCH.out]; simp⟩
        have HRR := Lib.hid hR
        clear hR
        gi_wp2
        gi_region
        all_goals
          gi_wp2
          refine HRR.out.mono ?_
          rintro e W3 (⟨rfl, hJ3, hk3⟩ | ⟨rfl, hJx3⟩)
          · have HJ3 := Lib.hid hJ3
            have HX3 : Hid (W3.heap[Bs]? = some (.cells #[S (rest.drop (i + 1))] 9)) := Lib.hid (hk3.trans (by show (w'.setCell ⟨Bs, 0, none⟩ _).heap[Bs]? = _; simp [World.setCell, Array.getElem?_modify, HX.out]))
            clear hJ3 hk3 hy hx1 hx2
            gi_wp2
            gi_roundg (gk - 1)
            case measure => omega
            case rel => exact ⟨pre ++ [rest.take (i + 1)], rest.drop (i + 1), by rw [HC.out, HCH.out]; simp, by rw [List.length_drop]; omega, by rw [List.length_drop]; omega, HX3.out, HJ3.out⟩
          · have HJ3 := Lib.hid hJx3
            clear hJx3 hy hx1 hx2
            gi_wp2
            refine bodyPost_ret (results_none rfl _ _ _) rfl ?_
            exact ⟨⟨_, rfl⟩, .inr ⟨_, ⟨chunks (rest.drop (i + 1)), by rw [HC.out, HCH.out]; simp⟩, HJ3.out⟩⟩
end Go.Proofs.YtgmmlblefealjaaDoor
