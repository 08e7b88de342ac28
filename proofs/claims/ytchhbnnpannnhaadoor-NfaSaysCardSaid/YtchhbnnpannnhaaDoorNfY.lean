/- The document's ways of a star. No condition. -/
import Derived.Test.YtchhbnnpannnhaaDoorNfX
namespace Go.Proofs.YtchhbnnpannnhaaDoor
open Go.RowKit IntWalk Go.Maps
set_option linter.unusedSimpArgs false
set_option linter.unusedVariables false
attribute [local go_sem] byte_at str_app

section
variable {W : World} {g : Nat} {n n' : Bool} {f s q u : Value} {k k' : Nat}
theorem Wc.set0 (h : Wc W g n f s q k) : Wc (W.setCell ⟨g, 0, none⟩ (.bool n')) g n' f s q k := by
  unfold Wc at *; simp [World.setCell, Array.getElem?_modify, h]
theorem Wc.set1 (h : Wc W g n f s q k) : Wc (W.setCell ⟨g, 1, none⟩ u) g n u s q k := by
  unfold Wc at *; simp [World.setCell, Array.getElem?_modify, h]
theorem Wc.set2 (h : Wc W g n f s q k) : Wc (W.setCell ⟨g, 2, none⟩ u) g n f u q k := by
  unfold Wc at *; simp [World.setCell, Array.getElem?_modify, h]
theorem Wc.set3 (h : Wc W g n f s q k) : Wc (W.setCell ⟨g, 3, none⟩ u) g n f s u k := by
  unfold Wc at *; simp [World.setCell, Array.getElem?_modify, h]
theorem Wc.set4 (h : Wc W g n f s q k) : Wc (W.setCell ⟨g, 4, none⟩ (.int .i64 (k' : Int))) g n f s q k' := by
  unfold Wc at *; simp [World.setCell, Array.getElem?_modify, h]
theorem Wc.far {b i : Nat} (h : Wc W g n f s q k) (hne : g ≠ b) : Wc (W.setCell ⟨b, i, none⟩ u) g n f s q k := (Below.heap_setCell _ _ _ _ hne).trans h
theorem Wc.new (W : World) : Wc (W.alloc (.cells #[.bool n, f, s, q, .int .i64 (k : Int)] 44)) W.heap.size n f s q k := heap_alloc_new W _
end
theorem szset (W : World) (p : Addr) (v : Value) : (W.setCell p v).heap.size = W.heap.size := by simp [World.setCell]
set_option maxRecDepth 100000 in
set_option maxHeartbeats 8000000 in
theorem ways_str (tl : Rt) (h1 : WaysC tl) : WaysC (.str tl) := by
  intro xs v l b tp k a w hv hr hn12 hd60 ha
  have hnl : nR tl ≤ 12 := hn12
  have hdl : ndR tl ≤ 60 := by have e : ndR (.str tl) = ndR tl + 1 := rfl; omega
  have hal : a + nR tl ≤ 1000 := ha
  obtain ⟨ka, hx, hra⟩ := hr
  have HE : Hid (nuR (.str tl) = true ∧ nR (.str tl) = nR tl ∧ fsR (.str tl) a = fsR tl a ∧ lsR (.str tl) a = lsR tl a ∧ prR (.str tl) a = prR tl a ++ crs (lsR tl a) (fsR tl a)) := Lib.hid ⟨rfl, rfl, rfl, rfl, rfl⟩
  have HLN : Hid ((fsR tl a).length ≤ 12 ∧ (lsR tl a).length ≤ 12 ∧ (prR tl a).length ≤ 20000) := Lib.hid ⟨Nat.le_trans (fs_lenR _ _) hnl, Nat.le_trans (ls_lenR _ _) hnl, by
    have h1 := pr_lenR tl a 12 hnl
    have h2 : ndR tl * (12 * 12) ≤ 60 * (12 * 12) := Nat.mul_le_mul_right _ hdl
    omega⟩
  obtain ⟨g, c, rfl, hg, hk, n0, n1, n2, n3⟩ := nv_node hv hx
  have HL := Lib.hid (fun W (h : NV W 0 (.slice (some ⟨g, 0, none⟩) xs.length c) xs) => h1 xs _ l b tp ka a W h hra hnl hdl hal)
  clear h1 hra hn12 hd60 ha hal hdl hx
  generalize nuR (.str tl) = zu at *
  generalize nR (.str tl) = zn at *
  generalize fsR (.str tl) a = zf at *
  generalize lsR (.str tl) a = zl at *
  generalize prR (.str tl) a = zp at *
  generalize nuR tl = nu at *
  generalize nR tl = nn at *
  generalize fsR tl a = FSs at *
  generalize lsR tl a = LS at *
  generalize prR tl a = PR at *
  obtain ⟨q1, q2, q3, qz, qB⟩ := alloc3_1 w (pObj (.slice (some ⟨g, 0, none⟩) xs.length c) l b tp) wz (.cells #[.int .i64 4, .int .u8 0, .int .i64 (ka : Int), .int .i64 0] 72)
  have p1 : (0 : Int) ≤ (k : Int) := by omega
  have p2 : (k : Int) < (xs.length : Int) := by omega
  have HB := Lib.hid qB
  have HNV := Lib.hid (hv.keep qB (Nat.le_refl _))
  have HP := Lib.hid q1; have HZ := Lib.hid q2; have HN := Lib.hid q3; have HSZ := Lib.hid qz
  clear qB hv q1 q2 q3 qz
  go_enter Tryd.func13, Tryd.ntmps13
  go_upto_region 6 with fail
  clear n0 n1 n2 n3
  generalize ((w.alloc (pObj (.slice (some ⟨g, 0, none⟩) xs.length c) l b tp)).alloc wz).alloc (.cells #[.int .i64 4, .int .u8 0, .int .i64 (ka : Int), .int .i64 0] 72) = W at *
  obtain ⟨a0, a1, a2, a3, _, _, _, _⟩ := four_at HP.out
  obtain ⟨d0, d1, d2, d3, _, _, _, _⟩ := four_at HN.out
  have HLs := Lib.hid (HL.out W HNV.out)
  go_wp2_with fail
  refine HLs.out.mono ?_
  rintro e w1 ⟨⟨f, s, q, rfl, hf, hs, hq⟩, hb1⟩
  have hz := HSZ.out
  have hz1 := hb1.size
  have HB1 := Lib.hid (HB.out.trans (hb1.mono HB.out.size))
  have HN1 := Lib.hid ((hb1.block (w.heap.size + 1 + 1) (by omega)).trans HN.out)
  have HZ1 := Lib.hid ((hb1.block (w.heap.size + 1) (by omega)).trans HZ.out)
  obtain ⟨Af, cf, rfl⟩ := hf.shape
  obtain ⟨As, cs, rfl⟩ := hs.shape
  obtain ⟨Aq, cq, rfl⟩ := hq.shape
  have HF := Lib.hid hf; have HS := Lib.hid hs; have HQ := Lib.hid hq
  clear hf hs hq hb1 HLs HL a0 a1 a2 a3 d0 d1 d2 d3 HNV HP HN HZ HB
  go_upto_region 7 with fail
  have hba := (Below.refl w1.heap.size w1).alloc (Nat.le_refl _) (.cells #[.bool nu, .slice Af FSs.length cf, .slice As LS.length cs, .slice Aq PR.length cq, .int .i64 (nn : Int)] 44)
  have HC2 := Lib.hid (Wc.new (n := nu) (f := .slice Af FSs.length cf) (s := .slice As LS.length cs) (q := .slice Aq PR.length cq) (k := nn) w1)
  have HB2 := Lib.hid (HB1.out.trans (hba.mono HB1.out.size))
  have HK2 := Lib.hid (KeepW.of hba (Nat.le_refl _))
  have HN2 := Lib.hid ((hba.block (w.heap.size + 1 + 1) (by omega)).trans HN1.out)
  have HZ2 := Lib.hid ((hba.block (w.heap.size + 1) (by omega)).trans HZ1.out)
  have HG : Hid (w.heap.size + 1 + 1 < w1.heap.size) := Lib.hid (by omega)
  clear hba
  generalize (w1.alloc (.cells #[.bool nu, .slice Af FSs.length cf, .slice As LS.length cs, .slice Aq PR.length cq, .int .i64 (nn : Int)] 44)) = w2 at *
  generalize w1.heap.size = ga at *
  obtain ⟨⟨c0, c1, c2, c3, c4⟩, f0, f1, f2, f3, f4⟩ := HC2.out.all
  obtain ⟨d0, d1, d2, d3, _, _, _, _⟩ := four_at HN2.out
  have HC3 := Lib.hid (HC2.out.set0 (n' := true))
  have HK3 := Lib.hid (HK2.out.trans (KeepW.set (i := 0) (u := .bool true) HC2.out))
  have HB3 := Lib.hid (HB2.out.setCell (p := ⟨ga, 0, none⟩) (by show w.heap.size ≤ ga; have := HG.out; omega) (.bool true))
  have hz3 := szset w2 ⟨ga, 0, none⟩ (.bool true)
  have HZ3 : Hid ((w2.setCell ⟨ga, 0, none⟩ (.bool true)).heap[w.heap.size + 1]? = some wz) := Lib.hid ((Below.heap_setCell _ _ _ _ (by show w.heap.size + 1 ≠ ga; have := HG.out; omega)).trans HZ2.out)
  have HF3 := Lib.hid (HF.out.keep HK3.out); have HS3 := Lib.hid (HS.out.keep HK3.out); have HQ3 := Lib.hid (HQ.out.keep HK3.out)
  have HL3 : Hid (ga < (w2.setCell ⟨ga, 0, none⟩ (.bool true)).heap.size) := Lib.hid HC3.out.lt
  go_upto_region 9 with fail
  clear hz3 c0 c1 c2 c3 c4 f0 f1 f2 f3 f4 d0 d1 d2 d3 HC2 HK2 HB2 HN2 HZ2 HN1 HZ1 HB1 HF HS HQ HK3
  generalize w2.setCell ⟨ga, 0, none⟩ (.bool true) = w3 at *
  obtain ⟨⟨c0, c1, c2, c3, c4⟩, f0, f1, f2, f3, f4⟩ := HC3.out.all
  have HX := Lib.hid (crossed_any (.slice Aq PR.length cq) As Af LS.length FSs.length cs cf 0 PR LS FSs w3 HQ3.out HS3.out.ints.1 HF3.out.ints.1 HLN.out.2.2 HLN.out.2.1 HLN.out.1)
  go_wp2_with fail
  refine HX.out.mono ?_
  rintro e w4 ⟨⟨q', rfl, hq'⟩, hb4⟩
  obtain ⟨A4, n4, c4', rfl⟩ : ∃ A n c, q' = Value.slice A n c := by obtain ⟨A, c, e⟩ := hq'.shape; exact ⟨A, _, c, e⟩
  have HB4 := Lib.hid (HB3.out.trans (hb4.mono HB3.out.size))
  have HK4 := Lib.hid (KeepW.of hb4 (Nat.le_refl _))
  have HC4 := Lib.hid (HC3.out.below hb4 HL3.out)
  have HZ4 := Lib.hid ((hb4.block (w.heap.size + 1) (by have := HG.out; have := HL3.out; omega)).trans HZ3.out)
  have HQ4 := Lib.hid (hq'.base (Nat.zero_le _))
  clear hq' hb4 HX c0 c1 c2 c3 c4 f0 f1 f2 f3 f4 HC3 HZ3 HB3 HL3
  obtain ⟨⟨c0, c1, c2, c3, c4⟩, f0, f1, f2, f3, f4⟩ := HC4.out.all
  have HC5 := Lib.hid (HC4.out.set3 (u := .slice A4 n4 c4'))
  have HK5 := Lib.hid (KeepW.set (i := 3) (u := .slice A4 n4 c4') HC4.out)
  have HB5 := Lib.hid (HB4.out.setCell (p := ⟨ga, 3, none⟩) (by show w.heap.size ≤ ga; have := HG.out; omega) (.slice A4 n4 c4'))
  have HZ5 : Hid ((w4.setCell ⟨ga, 3, none⟩ (.slice A4 n4 c4')).heap[w.heap.size + 1]? = some wz) := Lib.hid ((Below.heap_setCell _ _ _ _ (by show w.heap.size + 1 ≠ ga; have := HG.out; omega)).trans HZ4.out)
  go_upto_region 10 with fail
  clear c0 c1 c2 c3 c4 f0 f1 f2 f3 f4 HC4 HZ4 HB4
  generalize w4.setCell ⟨ga, 3, none⟩ (.slice A4 n4 c4') = w5 at *
  obtain ⟨⟨c0, c1, c2, c3, c4⟩, f0, f1, f2, f3, f4⟩ := HC5.out.all
  have hzc : Wc w5 (w.heap.size + 1) false (.slice none 0 0) (.slice none 0 0) (.slice none 0 0) 0 := HZ5.out
  obtain ⟨⟨_, _, _, _, _⟩, _, _, _, _, _⟩ := hzc.all
  go_wp2_with fail
  refine bodyPost_ret (res_cell1 rfl _ _ (w.heap.size + 1) 44 _ (0, 0) _ rfl (set5 HZ5.out) Tryd.underlying44 rfl (by kernel_rfl)) rfl ?_
  obtain ⟨rfl, rfl, rfl, rfl, rfl⟩ := HE.out
  have hk6 := keep_set5 HZ5.out
  have hk35 := (HK4.out.trans HK5.out).trans (hk6 (.bool true) (.slice Af zf.length cf) (.slice As zl.length cs) (.slice A4 n4 c4') (.int .i64 (zn : Int)))
  refine ⟨⟨.slice Af zf.length cf, .slice As zl.length cs, .slice A4 n4 c4', rfl, HF3.out.keep hk35, HS3.out.keep hk35, HQ4.out.keep (HK5.out.trans (hk6 _ _ _ _ _))⟩, below_set5 HB5.out (by omega) _ _ _ _ _⟩
end Go.Proofs.YtchhbnnpannnhaaDoor
