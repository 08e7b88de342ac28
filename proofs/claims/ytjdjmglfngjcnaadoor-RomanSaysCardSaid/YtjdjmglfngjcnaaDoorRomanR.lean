/- The walk over roman.Read. Condition: the variable roman.parts reads as the program's text lays it. -/
import Derived.Test.YtjdjmglfngjcnaaDoorRomanW
namespace Go.Proofs.YtjdjmglfngjcnaaDoor
open Go.RowKit RomanM
attribute [local go_sem] byte_at str_app

theorem hasP_eq : ∀ (l s : List UInt8), Lib.hasPrefix l s = hasP l s := by
  intro l
  induction l with
  | nil => intro s; cases s <;> rfl
  | cons c a ih =>
    intro s
    cases s with
    | nil => rfl
    | cons d b =>
      have h := ih b
      unfold Lib.hasPrefix at h ⊢
      unfold hasP
      rw [List.isPrefixOf]
      by_cases hcd : c = d
      · subst hcd; rw [if_pos rfl, ← h]; simp
      · rw [if_neg hcd]
        have : (d == c) = false := by rw [beq_eq_false_iff_ne]; exact fun e => hcd e.symm
        rw [this]; rfl
theorem str_from (a : List UInt8) (k : Nat) : (ByteArray.mk a.toArray).extract k a.length = ByteArray.mk (a.drop k).toArray := by
  rw [Lib.extract_eq]
  simp [List.take_of_length_le]
theorem rd_yes {l left : List UInt8} {n : Int} (h : rOut 13 0 0 l = (n, left)) (h1 : 1 ≤ n ∧ n ≤ 3999) (h2 : left = []) (h3 : wr n = l) : rd l = n := by
  unfold rd; rw [h]; exact if_pos ⟨h2, h1.1, h1.2, h3⟩
theorem rd_no {l left : List UInt8} {n : Int} (h : rOut 13 0 0 l = (n, left)) (hn : ¬ (left = [] ∧ (1 ≤ n ∧ n ≤ 3999) ∧ wr n = l)) : rd l = 0 := by
  unfold rd; rw [h]; exact if_neg fun hh => hn ⟨hh.1, ⟨hh.2.1, hh.2.2.1⟩, hh.2.2.2⟩
set_option maxRecDepth 100000 in
set_option maxHeartbeats 2000000 in
theorem read_long (l : List UInt8) (w : World) (h : 24 < l.length) (hl : l.length ≤ 9223372036854775807) :
    Calls Tryd.prog 8 #[S l] w fun e w' => e = .returned (.tuple #[.int .i64 0, .iface 37 (.int .i64 4)]) ∧ Below w.heap.size w w' := by
  go_enter Tryd.func8, Tryd.ntmps8
  go_wp2_with fail
  refine (long1_yes 24 l _ _ _ ?_ (by omega)).mono ?_
  · simp [World.cell?_alloc_new]
  rintro e w' ⟨rfl, rfl⟩
  go_wp2_with fail
  go_ret2
  exact ⟨rfl, (Below.refl _ _).alloc (Nat.le_refl _) _⟩

set_option maxRecDepth 100000 in
set_option maxHeartbeats 4000000 in
theorem read_short (l : List UInt8) (w : World) (hl : l.length ≤ 24) (hg : PG w) :
    Calls Tryd.prog 8 #[S l] w fun e w' => ((rd l ≠ 0 ∧ e = .returned (.tuple #[.int .i64 (rd l), .nilIface])) ∨ (rd l = 0 ∧ e = .returned (.tuple #[.int .i64 0, .iface 37 (.int .i64 2)]))) ∧ Below w.heap.size w w' := by
  obtain ⟨T, hT0⟩ : ∃ T, rOut 13 0 0 l = T := ⟨_, rfl⟩
  have HT0 := Lib.hid hT0; clear hT0
  obtain ⟨D, hD⟩ : ∃ D, rd l = D := ⟨_, rfl⟩
  have HD := Lib.hid hD
  rw [hD]; clear hD
  have HPG := Lib.hid hg
  have hlt0 := hg.lt
  obtain ⟨tg, fr, hgc⟩ := hg
  have HG0 := Lib.hid hgc; clear hgc
  go_enter Tryd.func8, Tryd.ntmps8
  go_wp2_with fail
  refine (long1_no 24 l _ _ _ ?_ (by omega)).mono ?_
  · simp [World.cell?_alloc_new]
  rintro e w' ⟨rfl, rfl⟩
  go_wp2_with (refine wpList_load_row rfl 43 _ rfl 0 rfl tg pcs fr _ ?_ Tryd.underlying43 rfl (by kernel_rfl) ?_)
  · exact (Lib.alloc_old w _ _ hlt0).trans HG0.out
  go_loopg [5, 6, 19] 13 (fun f nv lv kv wr => ∃ k : Nat, ∃ n : Int, ∃ a : List UInt8, k + f = 13 ∧ kv = .int .i64 k ∧ nv = .int .i64 n ∧ lv = S a ∧ 0 ≤ n ∧ n + 1000 * a.length ≤ 24000 ∧ a.length ≤ 24 ∧ Below w.heap.size w wr ∧ rOut f k n a = T)
  case atStart => exact ⟨0, 0, l, by omega, rfl, rfl, rfl, by omega, by omega, hl, (Below.refl _ _).alloc (Nat.le_refl _) _, HT0.out⟩
  case round =>
    obtain ⟨k, n, a, hkf, rfl, rfl, rfl, h0, h1, ha, hB, hT⟩ := hrel
    have HB := Lib.hid hB; clear hB
    by_cases hlt : k < 13
    · obtain ⟨f, rfl⟩ : ∃ f, gk = f + 1 := ⟨gk - 1, by omega⟩
      have HT := Lib.hid hT; clear hT
      have hix := ix_at k wr hlt
      have hk13 : decide ((k : Int) < 13) = true := by simp; omega
      obtain ⟨p1, p2⟩ := pn_bd k
      obtain ⟨s1, s2⟩ := ps_bd k
      obtain ⟨X, hX⟩ : ∃ X, rIn 100 (pn k) (ps k) n a = X := ⟨_, rfl⟩
      have hTX : rOut f (k + 1) X.1 X.2 = T := by rw [← hX]; exact HT.out
      have HTX := Lib.hid hTX
      have HX := Lib.hid hX
      clear hTX hX HT
      have HB1 := Lib.hid (HB.out.alloc HB.out.size (.cells #[.int .i64 (pn k), S (ps k)] 42))
      have HBK1 := Lib.hid (heap_alloc_new wr (.cells #[.int .i64 (pn k), S (ps k)] 42))
      go_wp2_with fail
      generalize wr.alloc (.cells #[.int .i64 (pn k), S (ps k)] 42) = w1 at *
      generalize wr.heap.size = g at *
      generalize hp : pn k = p at *
      generalize hs : ps k = s at *
      clear hix
      go_loopg [5, 6] 100 (fun q nv lv wi => ∃ n : Int, ∃ a : List UInt8, nv = .int .i64 n ∧ lv = S a ∧ 0 ≤ n ∧ n + 1000 * a.length ≤ 24000 ∧ a.length ≤ 24 ∧ a.length < q ∧ w1 = wi ∧ rIn q p s n a = X)
      case atStart => exact ⟨n, a, rfl, rfl, h0, h1, ha, by omega, rfl, HX.out⟩
      case round =>
        clear h0 h1 ha HX
        obtain ⟨n, a, rfl, rfl, h0, h1, ha, hq, rfl, hX⟩ := hrel
        have c0 := Lib.cell_of_heap HBK1.out 0
        have c1 := Lib.cell_of_heap HBK1.out 1
        simp at c0 c1
        by_cases hpn : hasP a s = true
        · obtain ⟨q, rfl⟩ : ∃ q, gk = q + 1 := ⟨gk - 1, by omega⟩
          have HX := Lib.hid (rIn_yes hpn hX); clear hX
          have hlen := hasP_len hpn
          have HP := Lib.hid hpn; clear hpn
          go_wp2_with fail
          refine (Tryd.strings_HasPrefix _ _ _).mono ?_
          rintro e w2 ⟨rfl, rfl⟩
          rw [hasP_eq, HP.out]
          go_wp2_with fail
          go_roundg q
          case measure => omega
          case rel => exact ⟨n + p, a.drop s.length, rfl, by rw [str_from], by omega, by simp; omega, by simp; omega, by simp; omega, rfl, HX.out⟩
        · have hpf : hasP a s = false := by simpa using hpn
          have HX := Lib.hid (rIn_no hpf hX); clear hX hpn
          have HP := Lib.hid hpf; clear hpf
          go_wp2_with fail
          refine (Tryd.strings_HasPrefix _ _ _).mono ?_
          rintro e w2 ⟨rfl, rfl⟩
          rw [hasP_eq, HP.out]
          go_wp2_with fail
          go_roundg f
          case measure => omega
          case rel => exact ⟨k + 1, n, a, by omega, by simp, rfl, rfl, h0, h1, ha, HB1.out, by have := HTX.out; rw [HX.out] at this; exact this⟩
    · obtain rfl : gk = 0 := by omega
      have hTT : (n, a) = T := hT
      have HR := Lib.hid (HT0.out.trans hTT.symm)
      have hPG2 : PG wr := HPG.out.below HB.out (Nat.le_refl _)
      clear hT hTT HT0 HG0 hlt0
      by_cases hr : 1 ≤ n ∧ n ≤ 3999
      · have HW := Lib.hid (write_ok n wr hr hPG2)
        obtain ⟨W, hW⟩ : ∃ W, RomanM.wr n = W := ⟨_, rfl⟩
        rw [hW] at HW
        cases a with
        | nil =>
          by_cases he : W = l
          · have hrd := (rd_yes HR.out hr rfl (hW.trans he)).symm.trans HD.out
            subst he
            have HN := Lib.hid (show D ≠ 0 by omega)
            have HZ := Lib.hid hrd
            clear hrd hW hr HD HR
            go_wp2_with fail
            refine HW.out.mono ?_
            rintro e w2 ⟨rfl, hb2⟩
            go_wp2_with fail
            go_ret2
            exact ⟨.inl ⟨HN.out, by rw [← HZ.out]; rfl⟩, HB.out.trans (hb2.mono HB.out.size)⟩
          · have hrd := (rd_no HR.out (fun h => he (hW.symm.trans h.2.2))).symm.trans HD.out
            have HZ := Lib.hid hrd
            clear hrd
            have hne : (W == l) = false := by rw [beq_eq_false_iff_ne]; exact he
            clear hW hr HD HR he
            go_wp2_with fail
            refine HW.out.mono ?_
            rintro e w2 ⟨rfl, hb2⟩
            go_wp2_with fail
            go_ret2
            exact ⟨.inr ⟨HZ.out.symm, rfl⟩, HB.out.trans (hb2.mono HB.out.size)⟩
        | cons c a =>
          have hrd := (rd_no HR.out (fun h => by cases h.1)).symm.trans HD.out
          have HZ := Lib.hid hrd
          clear hrd
          clear hW hr HD HR
          go_wp2_with fail
          refine HW.out.mono ?_
          rintro e w2 ⟨rfl, hb2⟩
          go_wp2_with fail
          go_ret2
          exact ⟨.inr ⟨HZ.out.symm, rfl⟩, HB.out.trans (hb2.mono HB.out.size)⟩
      · have HW := Lib.hid (write_no n wr hr)
        have hrd := (rd_no HR.out (fun h => hr h.2.1)).symm.trans HD.out
        have HZ := Lib.hid hrd
        clear hrd
        clear hr HD HR
        cases a with
        | nil =>
          go_wp2_with fail
          refine HW.out.mono ?_
          rintro e w2 ⟨rfl, rfl⟩
          go_wp2_with fail
          go_ret2
          exact ⟨.inr ⟨HZ.out.symm, rfl⟩, HB.out⟩
        | cons c a =>
          go_wp2_with fail
          refine HW.out.mono ?_
          rintro e w2 ⟨rfl, rfl⟩
          go_wp2_with fail
          go_ret2
          exact ⟨.inr ⟨HZ.out.symm, rfl⟩, HB.out⟩
end Go.Proofs.YtjdjmglfngjcnaaDoor
