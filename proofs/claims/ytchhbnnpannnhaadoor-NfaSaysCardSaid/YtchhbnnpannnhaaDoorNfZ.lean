/- The document's ways of an alternative. No condition. -/
import Derived.Test.YtchhbnnpannnhaaDoorNfYb
namespace Go.Proofs.YtchhbnnpannnhaaDoor
open Go.RowKit IntWalk Go.Maps
set_option linter.unusedSimpArgs false
set_option linter.unusedVariables false
attribute [local go_sem] byte_at str_app

set_option maxRecDepth 100000 in
set_option maxHeartbeats 8000000 in
theorem ways_alt (tl tr : Rt) (h1 : WaysC tl) (h2 : WaysC tr) : WaysC (.alt tl tr) := by
  intro xs v l b tp k a w hv hr hn12 hd60 ha
  obtain ⟨i1, hi1, hy0, hy1, hy2⟩ := info_parts info_rowsW
  have en : nR (.alt tl tr) = nR tl + nR tr := nR_alt tl tr
  have ed : ndR (.alt tl tr) = ndR tl + ndR tr + 1 := rfl
  have HB12 : Hid (nR tl + nR tr ≤ 12 ∧ ndR tl ≤ 60 ∧ ndR tr ≤ 60 ∧ a + (nR tl + nR tr) ≤ 1000) := Lib.hid (by omega)
  obtain ⟨ka, kb, hx, hra, hrb⟩ := hr
  have HE : Hid (nuR (.alt tl tr) = (nuR tl || nuR tr) ∧ nR (.alt tl tr) = nR tl + nR tr ∧ fsR (.alt tl tr) a = (fsR tl a ++ fsR tr (a + nR tl)) ∧ lsR (.alt tl tr) a = (lsR tl a ++ lsR tr (a + nR tl)) ∧ prR (.alt tl tr) a = prR tl a ++ prR tr (a + nR tl)) := Lib.hid ⟨rfl, en, rfl, rfl, rfl⟩
  have HLN : Hid ((fsR tl a).length + (fsR tr (a + nR tl)).length ≤ 12 ∧ (lsR tl a).length + (lsR tr (a + nR tl)).length ≤ 12 ∧ (prR tl a).length + (prR tr (a + nR tl)).length ≤ 20000) := Lib.hid (by
    have q := HB12.out
    have e1 := fs_lenR tl a; have e2 := fs_lenR tr (a + nR tl); have e3 := ls_lenR tl a; have e4 := ls_lenR tr (a + nR tl)
    have e5 := pr_lenR tl a 12 (by omega); have e6 := pr_lenR tr (a + nR tl) 12 (by omega)
    have e7 : ndR tl * (12 * 12) ≤ 60 * (12 * 12) := Nat.mul_le_mul_right _ (by omega)
    have e8 : ndR tr * (12 * 12) ≤ 60 * (12 * 12) := Nat.mul_le_mul_right _ (by omega)
    omega)
  obtain ⟨g, c, rfl, hg, hk, n0, n1, n2, n3⟩ := nv_node hv hx
  have HL := Lib.hid (fun W (h : NV W 0 (.slice (some ⟨g, 0, none⟩) xs.length c) xs) => h1 xs _ l b tp ka a W h hra (by have := HB12.out; omega) HB12.out.2.1 (by have := HB12.out; omega))
  have HRR := Lib.hid (fun W (h : NV W 0 (.slice (some ⟨g, 0, none⟩) xs.length c) xs) => h2 xs _ l b tp kb (a + nR tl) W h hrb (by have := HB12.out; omega) HB12.out.2.2.1 (by have := HB12.out; omega))
  have hnn : nR tl ≤ 12 ∧ nR tr ≤ 12 ∧ a ≤ 1000 := by have := HB12.out; omega
  clear h1 h2 hra hrb hn12 hd60 ha hx en ed HB12
  generalize nuR (.alt tl tr) = zu at *
  generalize nR (.alt tl tr) = zn at *
  generalize fsR (.alt tl tr) a = zf at *
  generalize lsR (.alt tl tr) a = zl at *
  generalize prR (.alt tl tr) a = zp at *
  generalize hnl : nR tl = nn at *
  have HNL := Lib.hid hnl
  clear hnl
  generalize nR tr = mm at *
  generalize nuR tl = nu at *
  generalize nuR tr = mu at *
  generalize fsR tl a = FSs at *
  generalize lsR tl a = LS at *
  generalize prR tl a = PR at *
  generalize fsR tr (a + nn) = GS at *
  generalize lsR tr (a + nn) = MS at *
  generalize prR tr (a + nn) = QR at *
  obtain ⟨q1, q2, q3, qz, qB⟩ := alloc3_1 w (pObj (.slice (some ⟨g, 0, none⟩) xs.length c) l b tp) wz (.cells #[.int .i64 2, .int .u8 0, .int .i64 (ka : Int), .int .i64 (kb : Int)] 72)
  have p1 : (0 : Int) ≤ (k : Int) := by omega
  have p2 : (k : Int) < (xs.length : Int) := by omega
  have HB := Lib.hid qB
  have HNV := Lib.hid (hv.keep qB (Nat.le_refl _))
  have HP := Lib.hid q1; have HZ := Lib.hid q2; have HN := Lib.hid q3; have HSZ := Lib.hid qz
  clear qB hv q1 q2 q3 qz
  go_enter Tryd.func13, Tryd.ntmps13
  go_upto_region 6 with fail
  clear n0 n1 n2 n3
  generalize ((w.alloc (pObj (.slice (some ⟨g, 0, none⟩) xs.length c) l b tp)).alloc wz).alloc (.cells #[.int .i64 2, .int .u8 0, .int .i64 (ka : Int), .int .i64 (kb : Int)] 72) = W at *
  obtain ⟨a0, a1, a2, a3, _, _, _, _⟩ := four_at HP.out
  obtain ⟨d0, d1, d2, d3, _, _, _, _⟩ := four_at HN.out
  have HLs := Lib.hid (HL.out W HNV.out)
  go_wp2_with fail
  refine HLs.out.mono ?_
  rintro e w1 ⟨⟨f, s, q, rfl, hf, hs, hq⟩, hb1⟩
  have hz := HSZ.out
  have hz1 := hb1.size
  have HG : Hid (w.heap.size + 1 + 1 < w1.heap.size) := Lib.hid (by omega)
  have HB1 := Lib.hid (HB.out.trans (hb1.mono HB.out.size))
  have HP1 := Lib.hid ((hb1.block w.heap.size (by omega)).trans HP.out)
  have HN1 := Lib.hid ((hb1.block (w.heap.size + 1 + 1) (by omega)).trans HN.out)
  have HZ1 := Lib.hid ((hb1.block (w.heap.size + 1) (by omega)).trans HZ.out)
  have HV1 := Lib.hid (HNV.out.keep hb1 (Nat.le_refl _))
  obtain ⟨Af, nf, cf, rfl⟩ : ∃ A n c, f = Value.slice A n c := by obtain ⟨A, c, e⟩ := hf.shape; exact ⟨A, _, c, e⟩
  obtain ⟨As, ns, cs, rfl⟩ : ∃ A n c, s = Value.slice A n c := by obtain ⟨A, c, e⟩ := hs.shape; exact ⟨A, _, c, e⟩
  obtain ⟨Aq, nq, cq, rfl⟩ : ∃ A n c, q = Value.slice A n c := by obtain ⟨A, c, e⟩ := hq.shape; exact ⟨A, _, c, e⟩
  have HF := Lib.hid hf; have HS := Lib.hid hs; have HQ := Lib.hid hq
  clear hf hs hq hb1 HLs HL a0 a1 a2 a3 d0 d1 d2 d3 HNV HP HN HZ HB hz hz1 HSZ
  have hba := (Below.refl w1.heap.size w1).alloc (Nat.le_refl _) (.cells #[.bool nu, .slice Af nf cf, .slice As ns cs, .slice Aq nq cq, .int .i64 (nn : Int)] 44)
  have HC2 := Lib.hid (Wc.new (n := nu) (f := .slice Af nf cf) (s := .slice As ns cs) (q := .slice Aq nq cq) (k := nn) w1)
  have HB2 := Lib.hid (HB1.out.trans (hba.mono HB1.out.size))
  have HK2 := Lib.hid (KeepW.of hba (Nat.le_refl _))
  have hgl := HG.out
  have HN2 := Lib.hid ((hba.block (w.heap.size + 1 + 1) (by omega)).trans HN1.out)
  have HZ2 := Lib.hid ((hba.block (w.heap.size + 1) (by omega)).trans HZ1.out)
  have HP2 := Lib.hid ((hba.block w.heap.size (by omega)).trans HP1.out)
  have HV2 := Lib.hid (HV1.out.keep hba (Nat.le_refl _))
  go_upto_region 7 with fail
  clear hba
  generalize (w1.alloc (.cells #[.bool nu, .slice Af nf cf, .slice As ns cs, .slice Aq nq cq, .int .i64 (nn : Int)] 44)) = w2 at *
  generalize w1.heap.size = ga at *
  have HF2 := Lib.hid (HF.out.keep HK2.out); have HS2 := Lib.hid (HS.out.keep HK2.out); have HQ2 := Lib.hid (HQ.out.keep HK2.out)
  have hl2 : ga < w2.heap.size := HC2.out.lt
  obtain ⟨⟨c0, c1, c2, c3, c4⟩, f0, f1, f2, f3, f4⟩ := HC2.out.all
  obtain ⟨d0, d1, d2, d3, _, _, _, _⟩ := four_at HN2.out
  obtain ⟨a0, a1, a2, a3, _, _, _, _⟩ := four_at HP2.out
  have hadd : IntKind.i64.wrap ((a : Int) + (nn : Int)) = ((a + nn : Nat) : Int) := by rw [IntWalk.i64_in _ (by omega)]; omega
  have hadd2 : (a : Int) + (nn : Int) = ((a + nn : Nat) : Int) := by omega
  have HLs := Lib.hid (HRR.out w2 HV2.out)
  rw [← hadd2] at HLs
  clear HF HS HQ HK2 HB1 HP1 HN1 HZ1 HV1
  have hadd3 : IntKind.i64.wrap ((a : Int) + (nn : Int)) = (a : Int) + (nn : Int) := IntWalk.i64_in _ (by omega)
  clear hadd hadd2
  go_wp2_with fail
  refine HLs.out.mono ?_
  rintro e w3 ⟨⟨f, s, q, rfl, hf, hs, hq⟩, hb3⟩
  have hz3 := hb3.size
  have HK3 := Lib.hid (KeepW.of hb3 (Nat.le_refl _))
  have HB3 := Lib.hid (HB2.out.trans (hb3.mono HB2.out.size))
  have HC3 := Lib.hid (HC2.out.below hb3 hl2)
  have HN3 := Lib.hid ((hb3.block (w.heap.size + 1 + 1) (by omega)).trans HN2.out)
  have HZ3 := Lib.hid ((hb3.block (w.heap.size + 1) (by omega)).trans HZ2.out)
  have HF3 := Lib.hid (HF2.out.keep HK3.out); have HS3 := Lib.hid (HS2.out.keep HK3.out); have HQ3 := Lib.hid (HQ2.out.keep HK3.out)
  obtain ⟨Bf, mf, df, rfl⟩ : ∃ A n c, f = Value.slice A n c := by obtain ⟨A, c, e⟩ := hf.shape; exact ⟨A, _, c, e⟩
  obtain ⟨Bs, ms, ds, rfl⟩ : ∃ A n c, s = Value.slice A n c := by obtain ⟨A, c, e⟩ := hs.shape; exact ⟨A, _, c, e⟩
  obtain ⟨Bq, mq, dq, rfl⟩ : ∃ A n c, q = Value.slice A n c := by obtain ⟨A, c, e⟩ := hq.shape; exact ⟨A, _, c, e⟩
  have HBf := Lib.hid hf; have HBs := Lib.hid hs; have HBq := Lib.hid hq
  clear hf hs hq hb3 HLs HRR c0 c1 c2 c3 c4 f0 f1 f2 f3 f4 d0 d1 d2 d3 a0 a1 a2 a3 HC2 HB2 HN2 HZ2 HP2 HV2 HF2 HS2 HQ2 HK3 hadd3
  have hgl3 : ga < w3.heap.size := by omega
  have hbb := (Below.refl w3.heap.size w3).alloc (Nat.le_refl _) (.cells #[.bool mu, .slice Bf mf df, .slice Bs ms ds, .slice Bq mq dq, .int .i64 (mm : Int)] 44)
  have HD4 := Lib.hid (Wc.new (n := mu) (f := .slice Bf mf df) (s := .slice Bs ms ds) (q := .slice Bq mq dq) (k := mm) w3)
  have HB4 := Lib.hid (HB3.out.trans (hbb.mono HB3.out.size))
  have HK4 := Lib.hid (KeepW.of hbb (Nat.le_refl _))
  have HC4 := Lib.hid (HC3.out.below hbb hgl3)
  have HN4 := Lib.hid ((hbb.block (w.heap.size + 1 + 1) (by omega)).trans HN3.out)
  have HZ4 := Lib.hid ((hbb.block (w.heap.size + 1) (by omega)).trans HZ3.out)
  go_upto_region 12 with fail
  clear hbb hz3
  generalize (w3.alloc (.cells #[.bool mu, .slice Bf mf df, .slice Bs ms ds, .slice Bq mq dq, .int .i64 (mm : Int)] 44)) = w4 at *
  generalize hgb : w3.heap.size = gb at *
  have HF4 := Lib.hid (HF3.out.keep HK4.out); have HS4 := Lib.hid (HS3.out.keep HK4.out); have HQ4 := Lib.hid (HQ3.out.keep HK4.out)
  have HBf4 := Lib.hid (HBf.out.keep HK4.out); have HBs4 := Lib.hid (HBs.out.keep HK4.out); have HBq4 := Lib.hid (HBq.out.keep HK4.out)
  have hl4 : gb < w4.heap.size := HD4.out.lt
  clear HF3 HS3 HQ3 HBf HBs HBq HC3 HB3 HN3 HZ3 HK4 hgb hl2
  have hbc := (Below.refl w4.heap.size w4).alloc (Nat.le_refl _) (.cells #[.bool false, .slice none 0 0, .slice none 0 0, .slice none 0 0, .int .i64 ((nn : Int) + (mm : Int))] 44)
  have hsum : (nn : Int) + (mm : Int) = ((nn + mm : Nat) : Int) := by omega
  have HW5 : Hid (Wc (w4.alloc (.cells #[.bool false, .slice none 0 0, .slice none 0 0, .slice none 0 0, .int .i64 ((nn : Int) + (mm : Int))] 44)) w4.heap.size false (.slice none 0 0) (.slice none 0 0) (.slice none 0 0) (nn + mm)) := Lib.hid (by unfold Wc; rw [← hsum]; exact heap_alloc_new w4 _)
  clear hsum
  have HB5 := Lib.hid (HB4.out.trans (hbc.mono HB4.out.size))
  have HK5 := Lib.hid (KeepW.of hbc (Nat.le_refl _))
  have HC5 := Lib.hid (HC4.out.below hbc (by omega))
  have HD5 := Lib.hid (HD4.out.below hbc hl4)
  have HN5 := Lib.hid ((hbc.block (w.heap.size + 1 + 1) (by omega)).trans HN4.out)
  have HZ5 := Lib.hid ((hbc.block (w.heap.size + 1) (by omega)).trans HZ4.out)
  have hadd4 : IntKind.i64.wrap ((nn : Int) + (mm : Int)) = (nn : Int) + (mm : Int) := IntWalk.i64_in _ (by omega)
  obtain ⟨⟨c0, c1, c2, c3, c4⟩, _, _, _, _, _⟩ := HC4.out.all
  obtain ⟨⟨e0, e1, e2, e3, e4⟩, _, _, _, _, _⟩ := HD4.out.all
  have u0 := fun o => World.cell?_alloc_lt w4 o ⟨ga, 4, none⟩ (show ga < w4.heap.size by omega)
  have u1 := fun o => World.cell?_alloc_lt w4 o ⟨gb, 4, none⟩ (show gb < w4.heap.size by omega)
  have v0 := fun o => (u0 o).trans c4
  have v1 := fun o => (u1 o).trans e4
  go_upto_region 14 with fail
  clear hbc u0 u1 v0 v1 c0 c1 c2 c3 c4 e0 e1 e2 e3 e4 hadd4
  generalize (w4.alloc (.cells #[.bool false, .slice none 0 0, .slice none 0 0, .slice none 0 0, .int .i64 ((nn : Int) + (mm : Int))] 44)) = w5 at *
  generalize w4.heap.size = gw at *
  have HF5 := Lib.hid (HF4.out.keep HK5.out); have HS5 := Lib.hid (HS4.out.keep HK5.out); have HQ5 := Lib.hid (HQ4.out.keep HK5.out)
  have HBf5 := Lib.hid (HBf4.out.keep HK5.out); have HBs5 := Lib.hid (HBs4.out.keep HK5.out); have HBq5 := Lib.hid (HBq4.out.keep HK5.out)
  have hl5 : gw < w5.heap.size := HW5.out.lt
  clear HF4 HS4 HQ4 HBf4 HBs4 HBq4 HC4 HD4 HB4 HN4 HZ4 HK5
  obtain ⟨KA, ka1, ka2, ka3, ka4⟩ := HQ5.out.cells
  have HKA := Lib.hid ka2; have HKO := Lib.hid ka4
  have hla : KA.length ≤ 20000 := by have := HLN.out; omega
  obtain ⟨⟨c0, c1, c2, c3, c4⟩, _, _, _, _, _⟩ := HC5.out.all
  obtain ⟨⟨z0, z1, z2, z3, z4⟩, f0, f1, f2, f3, f4⟩ := HW5.out.all
  clear ka2 ka4
  go_upto_region 15 with (at_builtin; refine wpList_append_cells rfl (.tmp 61) (.tmp 63) _ rfl 27 i1 _ Tryd.underlying28 hi1 hy0 hy1 (by omega) rfl w.heap.size (.slice none 0 0) [] KA rfl (World.ownsRow_nil _ _ _ _) Aq nq cq rfl HKA.out HKO.out (by simp; omega) HB5.out.size ?_; intro v6 w6 hown6 hgr6 hb6 hl6; rw [List.nil_append] at hown6; obtain ⟨A6, n6, c6, e6⟩ : ∃ A n c, v6 = Value.slice A n c := (by obtain ⟨A, c, e, _⟩ := own_shape hown6; exact ⟨A, _, c, e⟩); subst e6; have hB56 := below_of_grown hgr6; have hW6 := HW5.out.below hB56 hl5; obtain ⟨⟨_, _, _, y3, _⟩, _, _, _, g3, _⟩ := hW6.all)
  have hp6 : PW w6 w.heap.size (.slice A6 n6 c6) PR := ⟨KA, ka1, hown6, ka3.grown hgr6 (fun k hk => by cases hk)⟩
  have hk6 := (KeepW.of hB56 (Nat.le_refl _)).trans (KeepW.set (i := 3) (u := .slice A6 n6 c6) hW6)
  have HK6 := Lib.hid hk6
  have HP6 := Lib.hid (hp6.keep (KeepW.set (i := 3) (u := .slice A6 n6 c6) hW6))
  have HW6 := Lib.hid (hW6.set3 (u := .slice A6 n6 c6))
  have HC6 := Lib.hid ((HC5.out.below hB56 (by have := hB56.size; omega)).far (b := gw) (i := 3) (u := .slice A6 n6 c6) (by omega))
  have HD6 := Lib.hid ((HD5.out.below hB56 (by omega)).far (b := gw) (i := 3) (u := .slice A6 n6 c6) (by omega))
  have HB6 := Lib.hid ((HB5.out.trans hb6).setCell (p := ⟨gw, 3, none⟩) (by show w.heap.size ≤ gw; omega) (.slice A6 n6 c6))
  have HN6 : Hid ((w6.setCell ⟨gw, 3, none⟩ (.slice A6 n6 c6)).heap[w.heap.size + 1 + 1]? = _) := Lib.hid ((Below.heap_setCell _ _ _ _ (by show w.heap.size + 1 + 1 ≠ gw; omega)).trans ((hB56.block (w.heap.size + 1 + 1) (by omega)).trans HN5.out))
  have HZ6 : Hid ((w6.setCell ⟨gw, 3, none⟩ (.slice A6 n6 c6)).heap[w.heap.size + 1]? = _) := Lib.hid ((Below.heap_setCell _ _ _ _ (by show w.heap.size + 1 ≠ gw; omega)).trans ((hB56.block (w.heap.size + 1) (by omega)).trans HZ5.out))
  have hs6 := szset w6 ⟨gw, 3, none⟩ (.slice A6 n6 c6)
  have hz56 := hB56.size
  have HOB : Hid (∀ k, (Value.slice A6 n6 c6).ownBlock = some k → w5.heap.size ≤ k) := Lib.hid (fun k hk => by
    rcases hl6 with h | h
    · rw [h] at hk; cases hk
    · rw [h] at hk; injection hk with hk; omega)
  clear hown6 hgr6 hb6 hl6 hp6 hk6 hW6 hB56 y3 g3 c0 c1 c2 c3 c4 z0 z1 z2 z3 z4 f0 f1 f2 f3 f4 ka3 HQ5 HW5 HC5 HD5 HB5 HN5 HZ5 HKA HKO
  generalize w6.setCell ⟨gw, 3, none⟩ (.slice A6 n6 c6) = w7 at *
  have HF7 := Lib.hid (HF5.out.keep HK6.out); have HS7 := Lib.hid (HS5.out.keep HK6.out)
  have HBf7 := Lib.hid (HBf5.out.keep HK6.out); have HBs7 := Lib.hid (HBs5.out.keep HK6.out); have HBq7 := Lib.hid (HBq5.out.keep HK6.out)
  clear HF5 HS5 HBf5 HBs5 HBq5 HK6
  obtain ⟨KB, kb1, kb2, kb3, kb4⟩ := HBq7.out.cells
  obtain ⟨KC, kc1, kc2, kc3⟩ := HP6.out
  have hlc : KC.length + KB.length ≤ 20000 := by have := HLN.out; omega
  have HKB := Lib.hid kb2; have HKO := Lib.hid kb4; have HKC := Lib.hid kc2
  obtain ⟨⟨c0, c1, c2, c3, c4⟩, _, _, _, _, _⟩ := HD6.out.all
  obtain ⟨⟨z0, z1, z2, z3, z4⟩, f0, f1, f2, f3, f4⟩ := HW6.out.all
  have hl7 : gw < w7.heap.size := HW6.out.lt
  clear kb2 kb4 kc2
  go_upto_region 16 with (at_builtin; refine wpList_append_cells rfl (.tmp 67) (.tmp 69) _ rfl 27 i1 _ Tryd.underlying28 hi1 hy0 hy1 (by omega) rfl w.heap.size (.slice A6 n6 c6) KC KB rfl HKC.out Bq mq dq rfl HKB.out HKO.out (by omega) HB6.out.size ?_; intro v8 w8 hown8 hgr8 hb8 hl8; obtain ⟨A8, n8, c8, e8⟩ : ∃ A n c, v8 = Value.slice A n c := (by obtain ⟨A, c, e, _⟩ := own_shape hown8; exact ⟨A, _, c, e⟩); subst e8; have hW8 : Wc w8 gw false (.slice none 0 0) (.slice none 0 0) (.slice A6 n6 c6) (nn + mm) := (hgr8.block gw hl7 (fun e => by have := HOB.out _ e.symm; omega)).trans HW6.out; obtain ⟨⟨_, _, _, y3, _⟩, _, _, _, g3, _⟩ := hW8.all)
  have hp8 : PW w8 w.heap.size (.slice A8 n8 c8) (PR ++ QR) := ⟨KC ++ KB, by simp [kc1, kb1], hown8, (PWc.app kc1 kc3 kb3).grown hgr8 (own_tyI HKC.out)⟩
  have hi8 : KeepI w7 w8 := KeepI.grown hgr8 (own_tyI HKC.out)
  have hset := KeepW.set (i := 3) (u := .slice A8 n8 c8) hW8
  have HI8 := Lib.hid (hi8.trans hset.int)
  have HP8 := Lib.hid (hp8.keep hset)
  have HW8 := Lib.hid (hW8.set3 (u := .slice A8 n8 c8))
  have hold : ∀ k, k < w5.heap.size → w8.heap[k]? = w7.heap[k]? := fun k hk => hgr8.block k (by omega) (fun e => by have := HOB.out _ e.symm; omega)
  have HC8 := Lib.hid (Wc.far (b := gw) (i := 3) (u := .slice A8 n8 c8) (show Wc w8 ga nu (.slice Af nf cf) (.slice As ns cs) (.slice Aq nq cq) nn from (hold ga (by omega)).trans HC6.out) (by omega))
  have HD8 := Lib.hid (Wc.far (b := gw) (i := 3) (u := .slice A8 n8 c8) (show Wc w8 gb mu (.slice Bf mf df) (.slice Bs ms ds) (.slice Bq mq dq) mm from (hold gb (by omega)).trans HD6.out) (by omega))
  have HB8 := Lib.hid ((HB6.out.trans hb8).setCell (p := ⟨gw, 3, none⟩) (by show w.heap.size ≤ gw; omega) (.slice A8 n8 c8))
  have HN8 : Hid ((w8.setCell ⟨gw, 3, none⟩ (.slice A8 n8 c8)).heap[w.heap.size + 1 + 1]? = _) := Lib.hid ((Below.heap_setCell _ _ _ _ (by show w.heap.size + 1 + 1 ≠ gw; omega)).trans ((hold (w.heap.size + 1 + 1) (by omega)).trans HN6.out))
  have HZ8 : Hid ((w8.setCell ⟨gw, 3, none⟩ (.slice A8 n8 c8)).heap[w.heap.size + 1]? = _) := Lib.hid ((Below.heap_setCell _ _ _ _ (by show w.heap.size + 1 ≠ gw; omega)).trans ((hold (w.heap.size + 1) (by omega)).trans HZ6.out))
  clear hown8 hgr8 hb8 hl8 hp8 hi8 hset hW8 hold y3 g3 c0 c1 c2 c3 c4 z0 z1 z2 z3 z4 f0 f1 f2 f3 f4 kb3 kc3 HBq7 HW6 HC6 HD6 HB6 HN6 HZ6 HKB HKO HKC HP6 HOB hs6 hz56
  generalize w8.setCell ⟨gw, 3, none⟩ (.slice A8 n8 c8) = w9 at *
  have HF9 := Lib.hid (HF7.out.keepI HI8.out); have HS9 := Lib.hid (HS7.out.keepI HI8.out)
  have HBf9 := Lib.hid (HBf7.out.keepI HI8.out); have HBs9 := Lib.hid (HBs7.out.keepI HI8.out)
  have hgg : w.heap.size + 1 + 1 < ga ∧ ga < gb ∧ gb < gw ∧ gw < w9.heap.size := ⟨hgl, by omega, by omega, HW8.out.lt⟩
  have HGG := Lib.hid hgg
  clear HF7 HS7 HBf7 HBs7 HI8 hgg hl4 hl5 hl7 hgl hgl3 hla hlc ka1 kb1 kc1
  have T9 : Hid (WT w ga gb gw (.slice Af nf cf) (.slice As ns cs) (.slice Aq nq cq) (.slice Bf mf df) (.slice Bs ms ds) (.slice Bq mq dq) FSs LS GS MS nu mu nn mm (nn + mm) false (.slice none 0 0) (.slice none 0 0) (.slice A8 n8 c8) w9) := Lib.hid ⟨HC8.out, HD8.out, HW8.out, HZ8.out, HB8.out, HF9.out, HS9.out, HBf9.out, HBs9.out, HGG.out.1, HGG.out.2.1, HGG.out.2.2.1⟩
  have HP9 := HP8
  obtain ⟨d0, d1, d2, d3, _, _, _, _⟩ := four_at HN8.out
  generalize hkk : nn + mm = kk at *
  have HKK := Lib.hid hkk
  clear HC8 HD8 HW8 HZ8 HB8 HF9 HS9 HBf9 HBs9 HGG HP8 hkk HN8
  cases nu
  · obtain ⟨⟨_, _, _⟩, ⟨_, _, _⟩, ⟨_, _, _, _, _⟩, _, _, _, _⟩ := T9.out.cells
    have T10 := Lib.hid (T9.out.set0 (n' := mu))
    have hk10 := KeepW.set (i := 0) (u := .bool mu) T9.out.w
    have HP10 := Lib.hid (HP9.out.keep hk10)
    go_upto_region 18 with fail
    clear T9 hk10 HP9
    generalize w9.setCell ⟨gw, 0, none⟩ (.bool mu) = w10 at *
    obtain ⟨⟨_, _, _⟩, ⟨_, _, _⟩, ⟨_, _, _, _, _⟩, _, _, _, _⟩ := T10.out.cells
    have HJ := Lib.hid (joinW_any Af Bf nf mf cf df FSs GS w10 T10.out.fa T10.out.fb (by have := HLN.out; omega))
    go_wp2_with fail
    refine HJ.out.mono ?_
    rintro e w11 ⟨⟨v', rfl, hi⟩, hb⟩
    obtain ⟨A11, n11, c11, rfl⟩ : ∃ A n c, v' = Value.slice A n c := by obtain ⟨A, c, e⟩ := hi.shape; exact ⟨A, _, c, e⟩
    have T11 := Lib.hid (T10.out.below hb)
    have hk11 := KeepW.of hb (Nat.le_refl _)
    have HP11 := Lib.hid (HP10.out.keep hk11)
    have HI1_11 := Lib.hid (hi)
    clear HJ hi hb hk11 T10 HP10
    obtain ⟨⟨_, _, _⟩, ⟨_, _, _⟩, ⟨_, _, _, _, _⟩, _, _, _, _⟩ := T11.out.cells
    have T12 := Lib.hid (T11.out.set1 (u := .slice A11 n11 c11))
    have hk12 := KeepW.set (i := 1) (u := .slice A11 n11 c11) T11.out.w
    have HP12 := Lib.hid (HP11.out.keep hk12)
    have HI1_12 := Lib.hid (HI1_11.out.keep hk12)
    go_upto_region 19 with fail
    clear T11 hk12 HP11 HI1_11
    generalize w11.setCell ⟨gw, 1, none⟩ (.slice A11 n11 c11) = w12 at *
    obtain ⟨⟨_, _, _⟩, ⟨_, _, _⟩, ⟨_, _, _, _, _⟩, _, _, _, _⟩ := T12.out.cells
    have HJ := Lib.hid (joinW_any As Bs ns ms cs ds LS MS w12 T12.out.sa T12.out.sb (by have := HLN.out; omega))
    go_wp2_with fail
    refine HJ.out.mono ?_
    rintro e w13 ⟨⟨v', rfl, hi⟩, hb⟩
    obtain ⟨A13, n13, c13, rfl⟩ : ∃ A n c, v' = Value.slice A n c := by obtain ⟨A, c, e⟩ := hi.shape; exact ⟨A, _, c, e⟩
    have T13 := Lib.hid (T12.out.below hb)
    have hk13 := KeepW.of hb (Nat.le_refl _)
    have HP13 := Lib.hid (HP12.out.keep hk13)
    have HI1_13 := Lib.hid (HI1_12.out.keep hk13)
    have HI2_13 := Lib.hid (hi)
    clear HJ hi hb hk13 T12 HP12 HI1_12
    obtain ⟨⟨_, _, _⟩, ⟨_, _, _⟩, ⟨_, _, _, _, _⟩, _, _, _, _⟩ := T13.out.cells
    have T14 := Lib.hid (T13.out.set2 (u := .slice A13 n13 c13))
    have hk14 := KeepW.set (i := 2) (u := .slice A13 n13 c13) T13.out.w
    have HP14 := Lib.hid (HP13.out.keep hk14)
    have HI1_14 := Lib.hid (HI1_13.out.keep hk14)
    have HI2_14 := Lib.hid (HI2_13.out.keep hk14)
    go_upto_region 20 with fail
    clear T13 hk14 HP13 HI1_13 HI2_13
    generalize w13.setCell ⟨gw, 2, none⟩ (.slice A13 n13 c13) = w14 at *
    obtain ⟨⟨_, _, _⟩, ⟨_, _, _⟩, ⟨_, _, _, _, _⟩, _, _, _, _⟩ := T14.out.cells
    have hzc : Wc w14 (w.heap.size + 1) false (.slice none 0 0) (.slice none 0 0) (.slice none 0 0) 0 := T14.out.z
    obtain ⟨⟨_, _, _, _, _⟩, _, _, _, _, _⟩ := hzc.all
    go_wp2_with fail
    refine bodyPost_ret (res_cell1 rfl _ _ (w.heap.size + 1) 44 _ (0, 0) _ rfl (set5 T14.out.z) Tryd.underlying44 rfl (by kernel_rfl)) rfl ?_
    obtain ⟨rfl, rfl, rfl, rfl, rfl⟩ := HE.out
    have hk6 := keep_set5 T14.out.z
    refine ⟨⟨.slice A11 n11 c11, .slice A13 n13 c13, .slice A8 n8 c8, rfl, HI1_14.out.keep (hk6 _ _ _ _ _), HI2_14.out.keep (hk6 _ _ _ _ _), (HP14.out.base (Nat.zero_le _)).keep (hk6 _ _ _ _ _)⟩, below_set5 T14.out.bl (by omega) _ _ _ _ _⟩
  · obtain ⟨⟨_, _, _⟩, ⟨_, _, _⟩, ⟨_, _, _, _, _⟩, _, _, _, _⟩ := T9.out.cells
    have T10 := Lib.hid (T9.out.set0 (n' := true))
    have hk10 := KeepW.set (i := 0) (u := .bool true) T9.out.w
    have HP10 := Lib.hid (HP9.out.keep hk10)
    go_upto_region 18 with fail
    clear T9 hk10 HP9
    generalize w9.setCell ⟨gw, 0, none⟩ (.bool true) = w10 at *
    obtain ⟨⟨_, _, _⟩, ⟨_, _, _⟩, ⟨_, _, _, _, _⟩, _, _, _, _⟩ := T10.out.cells
    have HJ := Lib.hid (joinW_any Af Bf nf mf cf df FSs GS w10 T10.out.fa T10.out.fb (by have := HLN.out; omega))
    go_wp2_with fail
    refine HJ.out.mono ?_
    rintro e w11 ⟨⟨v', rfl, hi⟩, hb⟩
    obtain ⟨A11, n11, c11, rfl⟩ : ∃ A n c, v' = Value.slice A n c := by obtain ⟨A, c, e⟩ := hi.shape; exact ⟨A, _, c, e⟩
    have T11 := Lib.hid (T10.out.below hb)
    have hk11 := KeepW.of hb (Nat.le_refl _)
    have HP11 := Lib.hid (HP10.out.keep hk11)
    have HI1_11 := Lib.hid (hi)
    clear HJ hi hb hk11 T10 HP10
    obtain ⟨⟨_, _, _⟩, ⟨_, _, _⟩, ⟨_, _, _, _, _⟩, _, _, _, _⟩ := T11.out.cells
    have T12 := Lib.hid (T11.out.set1 (u := .slice A11 n11 c11))
    have hk12 := KeepW.set (i := 1) (u := .slice A11 n11 c11) T11.out.w
    have HP12 := Lib.hid (HP11.out.keep hk12)
    have HI1_12 := Lib.hid (HI1_11.out.keep hk12)
    go_upto_region 19 with fail
    clear T11 hk12 HP11 HI1_11
    generalize w11.setCell ⟨gw, 1, none⟩ (.slice A11 n11 c11) = w12 at *
    obtain ⟨⟨_, _, _⟩, ⟨_, _, _⟩, ⟨_, _, _, _, _⟩, _, _, _, _⟩ := T12.out.cells
    have HJ := Lib.hid (joinW_any As Bs ns ms cs ds LS MS w12 T12.out.sa T12.out.sb (by have := HLN.out; omega))
    go_wp2_with fail
    refine HJ.out.mono ?_
    rintro e w13 ⟨⟨v', rfl, hi⟩, hb⟩
    obtain ⟨A13, n13, c13, rfl⟩ : ∃ A n c, v' = Value.slice A n c := by obtain ⟨A, c, e⟩ := hi.shape; exact ⟨A, _, c, e⟩
    have T13 := Lib.hid (T12.out.below hb)
    have hk13 := KeepW.of hb (Nat.le_refl _)
    have HP13 := Lib.hid (HP12.out.keep hk13)
    have HI1_13 := Lib.hid (HI1_12.out.keep hk13)
    have HI2_13 := Lib.hid (hi)
    clear HJ hi hb hk13 T12 HP12 HI1_12
    obtain ⟨⟨_, _, _⟩, ⟨_, _, _⟩, ⟨_, _, _, _, _⟩, _, _, _, _⟩ := T13.out.cells
    have T14 := Lib.hid (T13.out.set2 (u := .slice A13 n13 c13))
    have hk14 := KeepW.set (i := 2) (u := .slice A13 n13 c13) T13.out.w
    have HP14 := Lib.hid (HP13.out.keep hk14)
    have HI1_14 := Lib.hid (HI1_13.out.keep hk14)
    have HI2_14 := Lib.hid (HI2_13.out.keep hk14)
    go_upto_region 20 with fail
    clear T13 hk14 HP13 HI1_13 HI2_13
    generalize w13.setCell ⟨gw, 2, none⟩ (.slice A13 n13 c13) = w14 at *
    obtain ⟨⟨_, _, _⟩, ⟨_, _, _⟩, ⟨_, _, _, _, _⟩, _, _, _, _⟩ := T14.out.cells
    have hzc : Wc w14 (w.heap.size + 1) false (.slice none 0 0) (.slice none 0 0) (.slice none 0 0) 0 := T14.out.z
    obtain ⟨⟨_, _, _, _, _⟩, _, _, _, _, _⟩ := hzc.all
    go_wp2_with fail
    refine bodyPost_ret (res_cell1 rfl _ _ (w.heap.size + 1) 44 _ (0, 0) _ rfl (set5 T14.out.z) Tryd.underlying44 rfl (by kernel_rfl)) rfl ?_
    obtain ⟨rfl, rfl, rfl, rfl, rfl⟩ := HE.out
    have hk6 := keep_set5 T14.out.z
    refine ⟨⟨.slice A11 n11 c11, .slice A13 n13 c13, .slice A8 n8 c8, rfl, HI1_14.out.keep (hk6 _ _ _ _ _), HI2_14.out.keep (hk6 _ _ _ _ _), (HP14.out.base (Nat.zero_le _)).keep (hk6 _ _ _ _ _)⟩, below_set5 T14.out.bl (by omega) _ _ _ _ _⟩
end Go.Proofs.YtchhbnnpannnhaaDoor
