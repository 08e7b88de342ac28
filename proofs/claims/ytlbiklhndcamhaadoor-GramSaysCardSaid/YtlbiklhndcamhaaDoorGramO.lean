/- The walk over the document's Names: the names that a text can be. No condition. -/
import Derived.Test.YtlbiklhndcamhaaDoorGramV
import Derived.StillTailTactics
namespace Go.Proofs.YtlbiklhndcamhaaDoor
open Go.RowKit GramM IntWalk
attribute [local go_sem] byte_at str_app

theorem info_str : (Tryd.prog.info? 9).map (fun i => (i.zero, i.size, i.bytes)) = some (some (.string ByteArray.empty), 1, 16) := by kernel_rfl
theorem info_strs : (Tryd.prog.info? 44).map (fun i => (i.zero, i.size, i.bytes)) = some (some (.slice none 0 0), 1, 24) := by kernel_rfl
theorem topS_len (n i : Nat) (G : Nat → Nat) : (topS n i G).length = i := by simp [topS]

set_option maxRecDepth 100000 in
set_option maxHeartbeats 10000000 in
theorem namesR_any (L : List Ru) (s : List UInt8) (w : World) (A : Option Addr) (m c : Nat) (hR : Rules w w.heap.size A m L) (hm : m ≤ 10) (hok : L.all okR = true) (hs1 : 1 ≤ s.length) (hs : s.length ≤ 24) :
    Calls Tryd.prog 8 #[.slice A m c, S s] w fun e w' => e = .returned (S (nms L s)) ∧ Below w.heap.size w w' := by
  have hLm := hR.1
  obtain ⟨n, hn⟩ : ∃ n, s.length = n := ⟨_, rfl⟩
  have hn1 : 1 ≤ n := by omega
  have hn24 : n ≤ 24 := by omega
  have hn0 : ((n : Int) == 0) = false := by simp; omega
  obtain ⟨iu, hu, hu0, hu1, hu2⟩ := info_parts info_str
  obtain ⟨ir, hr, hr0, hr1, hr2⟩ := info_parts info_strs
  have HR := Lib.hid hR; clear hR
  have HOK := Lib.hid hok; clear hok
  go_enter Tryd.func8, Tryd.ntmps8
  go_wp2_with fail
  go_loopg [6, 7] n (fun f v iv wr => ∃ i : Nat, ∃ G : Nat → Nat, i + f = n ∧ iv = .int .i64 (i : Int) ∧ Rows0 wr w.heap.size n i G v ∧ Below w.heap.size w wr)
  case atStart => exact ⟨0, fun _ => 0, by omega, rfl, ⟨World.ownsRow_nil _ _ _ _, fun j hj => absurd hj (by omega), fun j hj => absurd hj (by omega), fun j k hj => absurd hj (by omega)⟩, Below.refl _ _⟩
  case round =>
    obtain ⟨i, G, hif, rfl, hT, hB⟩ := hrel
    by_cases hi : i < n
    · obtain ⟨f', rfl⟩ : ∃ f, gk = f + 1 := ⟨gk - 1, by omega⟩
      obtain ⟨A1, c1, rfl, hc1⟩ := own_shape hT.own
      have hmk := mk_ints (P := Tryd.prog) Tryd.underlying44 hu hu0 hu1 rfl (by omega) n (by omega) wr
      have HT := Lib.hid hT; have HB := Lib.hid hB
      have HZ := Lib.hid hB.size
      clear hT hB
      go_wp2_with (at_builtin; refine wpList_append1g rfl (.tmp 23) (.tmp 26) 43 rfl 44 ir _ Tryd.underlying43 hr hr0 hr1 (by omega) rfl w.heap.size (.slice A1 i c1) (topS n i G) (.slice (some ⟨wr.heap.size, 0, none⟩) n n) rfl rfl (by rw [World.size_alloc]; rfl) (by rw [topS_len]; exact HT.out.own.alloc _) (by rw [topS_len]; omega) (by rw [World.size_alloc]; have := HZ.out; omega) ?_; intro v' w' hown' hg')
      have hg2 : ((wr.alloc (.cells (List.replicate n (Value.string ByteArray.empty)).toArray 9)).alloc (.cells #[.slice (some ⟨wr.heap.size, 0, none⟩) n n] 44)).grownBy w' (Value.slice A1 i c1).ownBlock := by rw [List.toArray_replicate]; exact hg'
      rw [List.length_append, topS_len] at hown'
      have HN := Lib.hid (HT.out.next HZ.out hown' hg2)
      have HB2 := Lib.hid (((HB.out.alloc HZ.out (.cells (List.replicate n (Value.string ByteArray.empty)).toArray 9)).alloc (by simp; have := HZ.out; omega) (.cells #[.slice (some ⟨wr.heap.size, 0, none⟩) n n] 44)).grown hg2 (by simp; have := HZ.out; omega) (fun k hk => (HT.out.own.lt k hk).1))
      clear hown' hg' hg2 hmk
      go_roundg f'
      case measure => omega
      case rel => exact ⟨i + 1, _, by omega, by simp, HN.out, HB2.out⟩
    · obtain rfl : i = n := by omega
      obtain ⟨g0, cap, rfl, hT0⟩ := hT.tab (by omega)
      have HT0 := Lib.hid (hT0.congr (V' := Vn L s i 0 0 []) fun a b _ _ => Vn_init L s i a b)
      have HB0 := Lib.hid hB
      clear hT hB hT0
      go_wp2_with fail
      go_loopg [8] i (fun f kv wk => ∃ k : Nat, k + f = i ∧ kv = .int .i64 (k : Int) ∧ TabS wk w.heap.size g0 i G (Vn L s i k 0 []) ∧ Below w.heap.size w wk)
      case atStart => exact ⟨0, by omega, rfl, HT0.out, HB0.out⟩
      case round =>
        clear HT0 HB0
        obtain ⟨k, hkf, rfl, hT, hB⟩ := hrel
        have HT1 := Lib.hid hT; have HB1 := Lib.hid hB
        clear hT hB
        by_cases hk : k < i
        · obtain ⟨fk, rfl⟩ : ∃ f, gk = f + 1 := ⟨gk - 1, by omega⟩
          go_wp2_with fail
          go_loopg [9] (i - k) (fun f iv wi => ∃ j : Nat, j + f = i - k ∧ iv = .int .i64 (j : Int) ∧ TabS wi w.heap.size g0 i G (Vn L s i k j []) ∧ Below w.heap.size w wi)
          case atStart => exact ⟨0, by omega, rfl, HT1.out, HB1.out⟩
          case round =>
            clear HT1 HB1
            obtain ⟨j, hjf, rfl, hT, hB⟩ := hrel
            have HT2 := Lib.hid hT; have HB2 := Lib.hid hB
            clear hT hB
            have g1 : IntKind.i64.wrap ((j : Int) + (k : Int)) = (j : Int) + (k : Int) := i64_in _ (by omega)
            by_cases hj : j < i - k
            · obtain ⟨fj, rfl⟩ : ∃ f, gk = f + 1 := ⟨gk - 1, by omega⟩
              have hjk : j + k < i := by omega
              have g2 : (j : Int) + (k : Int) < (i : Int) := by omega
              have HX : Hid (∀ d, d < 26 → nmsTo L (cut s j (k + 1)) (d + 1) = if der L (65 + d) (cut s j (k + 1)) = true then nmsTo L (cut s j (k + 1)) d ++ [UInt8.ofNat (65 + d)] else nmsTo L (cut s j (k + 1)) d) := Lib.hid fun d _ => nmsTo_succ L _ d
              have HXL : Hid (∀ d, (nmsTo L (cut s j (k + 1)) d).length ≤ d) := Lib.hid fun d => nmsTo_len L _ d
              have HDC : Hid (∀ c, der L c (cut s j (k + 1)) = L.any fun r => r.nm.toNat == c && condR L s j k r) := Lib.hid fun c => der_cond (by omega)
              have HZ0 : Hid (nmsTo L (cut s j (k + 1)) 0 = []) := Lib.hid rfl
              have HZN : Hid (nmsTo L (cut s j (k + 1)) 26 = nms L (cut s j (k + 1))) := Lib.hid rfl
              have HTA : Hid (TabS wr w.heap.size g0 i G (Vn L s i k j (nmsTo L (cut s j (k + 1)) 0))) := Lib.hid (by rw [HZ0.out]; exact HT2.out)
              go_wp2_with fail
              go_loopg [10] 26 (fun f cv wc => ∃ d : Nat, d + f = 26 ∧ cv = .int .i64 (65 + (d : Int)) ∧ TabS wc w.heap.size g0 i G (Vn L s i k j (nmsTo L (cut s j (k + 1)) d)) ∧ Below w.heap.size w wc)
              case atStart => exact ⟨0, by omega, rfl, HTA.out, HB2.out⟩
              case round =>
                clear HTA HT2 HB2 HZ0
                obtain ⟨d, hdf, rfl, hT, hB⟩ := hrel
                have HT3 := Lib.hid hT; have HB3 := Lib.hid hB
                clear hT hB
                by_cases hd : d < 26
                · obtain ⟨fd, rfl⟩ : ∃ f, gk = f + 1 := ⟨gk - 1, by omega⟩
                  have g3 : (65 : Int) + (d : Int) < 91 := by omega
                  have g4 : IntKind.i64.wrap ((65 : Int) + (d : Int) + 1) = (65 : Int) + (d : Int) + 1 := i64_in _ (by omega)
                  go_wp2_with fail
                  go_loopg [11, 12] m (fun f bv rv wl => ∃ r : Nat, r + f = m ∧ rv = .int .i64 (r : Int) ∧ bv = .bool ((L.take r).any fun x => x.nm.toNat == 65 + d && condR L s j k x) ∧ TabS wl w.heap.size g0 i G (Vn L s i k j (nmsTo L (cut s j (k + 1)) d)) ∧ Below w.heap.size w wl)
                  case atStart => exact ⟨0, by omega, rfl, rfl, HT3.out, HB3.out⟩
                  case round =>
                    clear HT3 HB3
                    obtain ⟨r, hrf, rfl, rfl, hT, hB⟩ := hrel
                    have HT4 := Lib.hid hT; have HB4 := Lib.hid hB
                    clear hT hB
                    by_cases hr' : r < m
                    · obtain ⟨fr, rfl⟩ : ∃ f, gk = f + 1 := ⟨gk - 1, by omega⟩
                      obtain ⟨b, off, rfl, hb, hc⟩ := HR.out.2 (by omega)
                      obtain ⟨c1w, c2w⟩ := hc r hr'
                      have hbc := HB4.out
                      have c1 : wr.cell? ⟨b, off + r * 2, none⟩ = some (.int .u8 ((ru L r).nm.toNat : Int)) := (hbc.cell (p := ⟨b, off + r * 2, none⟩) hb).trans c1w
                      have c2 : wr.cell? ⟨b, off + r * 2 + 1, none⟩ = some (S (ru L r).is) := (hbc.cell (p := ⟨b, off + r * 2 + 1, none⟩) hb).trans c2w
                      have HC2 : Hid (∀ W, Below w.heap.size w W → W.cell? ⟨b, off + r * 2 + 1, none⟩ = some (S (ru L r).is)) := Lib.hid fun W hW => (hW.cell (p := ⟨b, off + r * 2 + 1, none⟩) hb).trans c2w
                      clear c1w c2w hbc
                      have hor := List.all_eq_true.1 HOK.out _ (ru_mem (L := L) (j := r) (by omega))
                      have hst : (L.take (r + 1)).any (fun x => x.nm.toNat == 65 + d && condR L s j k x) = ((L.take r).any (fun x => x.nm.toNat == 65 + d && condR L s j k x) || ((ru L r).nm.toNat == 65 + d && condR L s j k (ru L r))) := by rw [take_succ_ru (by omega), List.any_append]; simp
                      have HST := Lib.hid hst
                      have HOR := Lib.hid hor
                      clear hc hst hor
                      generalize ru L r = x at *
                      generalize (L.take r).any (fun x => x.nm.toNat == 65 + d && condR L s j k x) = bb at *
                      have g5 : IntKind.i64.wrap (x.nm.toNat : Int) = (x.nm.toNat : Int) := i64_in _ (by have := x.nm.toNat_lt; omega)
                      have g6 : IntKind.i64.wrap ((r : Int) + 1) = (r : Int) + 1 := i64_in _ (by omega)
                      have g7 : (r : Int) < (m : Int) := by omega
                      by_cases hnm : x.nm.toNat = 65 + d
                      · have n1 : (x.nm.toNat : Int) = 65 + (d : Int) := by omega
                        have n2 : (x.nm.toNat == 65 + d) = true := by simpa using hnm
                        rw [n2, Bool.true_and] at HST
                        have HN1 := Lib.hid n1
                        clear n2 hnm
                        cases bb
                        · rw [Bool.false_or] at HST
                          by_cases hl1 : x.is.length = 1
                          · have e1 : ((x.is.length : Int) == 1) = true := by simp; omega
                            have e2 : (x.is.length == 1) = true := by simp; omega
                            have e3 : (x.is.length == 2) = false := by simp; omega
                            have HCR : Hid (condR L s j k x = (x.is == cut s j (k + 1))) := Lib.hid (by unfold condR; rw [e2, e3]; simp)
                            clear hl1
                            by_cases hk0 : k = 0
                            · have k1 : ((k : Int) == 0) = true := by simpa using hk0
                              have k2 : (k == 0) = true := by simpa using hk0
                              have k3 : k = 0 := hk0
                              have HCR2 : Hid (condR L s j k x = (x.is == cut s j 1)) := Lib.hid (by rw [HCR.out, k3])
                              have hsm : (ByteArray.mk s.toArray).extract j (j + 1) = ByteArray.mk (cut s j 1).toArray := by rw [str_mid, show j + 1 - j = 1 by omega]; rfl
                              have f1 : IntKind.i64.wrap ((j : Int) + 1) = (j : Int) + 1 := i64_in _ (by omega)
                              have f2 : ((j : Int) + 1).toNat = j + 1 := by omega
                              have f3 : (j : Int) + 1 ≤ (i : Int) := by omega
                              have f4 : (0 : Int) ≤ (j : Int) + 1 := by omega
                              have f5 : (j : Int) ≤ (j : Int) + 1 := by omega
                              clear k3 hk0 HCR
                              generalize condR L s j k x = cr at *
                              generalize cut s j 1 = X1 at *
                              by_cases hri : x.is = X1
                              · have HSN : Hid (((L.take (r + 1)).any fun x => x.nm.toNat == 65 + d && condR L s j k x) = true) := Lib.hid (by rw [HST.out, HCR2.out]; simpa using hri)
                                rw [hri] at c2 e1
                                clear hri HST HCR2
                                go_wp2_with fail
                                go_quiet (fail)
                                have HTQ := Lib.hid (HT4.out.below (below_drewN (Below.refl _ wr) nq))
                                have HBQ := Lib.hid (below_drewN HB4.out nq)
                                clear c1 c2 e1 k1 k2 hsm f1 f2 f3 f4 f5
                                go_wp2_with fail
                                go_roundg fr
                                case measure => omega
                                case rel => exact ⟨r + 1, by omega, by simp, by rw [HSN.out], HTQ.out, HBQ.out⟩
                              · have hne : (x.is == X1) = false := by simpa using hri
                                have HSN : Hid (((L.take (r + 1)).any fun x => x.nm.toNat == 65 + d && condR L s j k x) = false) := Lib.hid (by rw [HST.out, HCR2.out]; exact hne)
                                clear hri HST HCR2
                                go_wp2_with fail
                                go_quiet (fail)
                                have HTQ := Lib.hid (HT4.out.below (below_drewN (Below.refl _ wr) nq))
                                have HBQ := Lib.hid (below_drewN HB4.out nq)
                                clear c1 c2 e1 k1 k2 hsm f1 f2 f3 f4 f5
                                go_wp2_with fail
                                go_roundg fr
                                case measure => omega
                                case rel => exact ⟨r + 1, by omega, by simp, by rw [HSN.out], HTQ.out, HBQ.out⟩
                            · have k1 : ((k : Int) == 0) = false := by simpa using hk0
                              have k2 : (k == 0) = false := by simpa using hk0
                              have HSN : Hid (((L.take (r + 1)).any fun x => x.nm.toNat == 65 + d && condR L s j k x) = false) := Lib.hid (by
                                rw [HST.out, HCR.out, beq_eq_false_iff_ne]
                                intro e
                                have h1 := congrArg List.length e
                                rw [cut_len (by omega)] at h1
                                have h2 : x.is.length = 1 := by simpa using e2
                                omega)
                              clear hk0 HST HCR
                              go_wp2_with fail
                              go_quiet (fail)
                              have HTQ := Lib.hid (HT4.out.below (below_drewN (Below.refl _ wr) nq))
                              have HBQ := Lib.hid (below_drewN HB4.out nq)
                              clear c1 c2 e1 k1 k2
                              go_wp2_with fail
                              go_roundg fr
                              case measure => omega
                              case rel => exact ⟨r + 1, by omega, by simp, by rw [HSN.out], HTQ.out, HBQ.out⟩
                          · have hl2 : x.is.length = 2 := by
                              have h := HOR.out
                              unfold okR at h
                              simp at h
                              omega
                            have hx2 : (65 ≤ (bu x.is 0).toNat ∧ (bu x.is 0).toNat ≤ 90) ∧ (65 ≤ (bu x.is 1).toNat ∧ (bu x.is 1).toNat ≤ 90) := by
                              have h := HOR.out
                              unfold okR at h
                              rw [hl2] at h
                              simp at h
                              omega
                            have e1 : ((x.is.length : Int) == 1) = false := by simp; omega
                            have e2 : (x.is.length == 1) = false := by simp; omega
                            have e3 : (x.is.length == 2) = true := by simp; omega
                            have e4 : 0 < x.is.length := by omega
                            have e5 : 1 < x.is.length := by omega
                            have HCR : Hid (condR L s j k x = (List.range k).any fun q => der L (bu x.is 0).toNat (cut s j (q + 1)) && der L (bu x.is 1).toNat (cut s (j + q + 1) (k - q))) := Lib.hid (by unfold condR; rw [e2, e3]; simp)
                            have HX2 := Lib.hid hx2
                            clear hl1 hl2 hx2 e2 e3
                            generalize condR L s j k x = cr at *
                            go_wp2_with fail
                            clear c1 c2
                            go_loopg [11, 13] k (fun f bv qv wq => ∃ q : Nat, q + f = k ∧ qv = .int .i64 (q : Int) ∧ bv = .bool ((List.range q).any fun q => der L (bu x.is 0).toNat (cut s j (q + 1)) && der L (bu x.is 1).toNat (cut s (j + q + 1) (k - q))) ∧ TabS wq w.heap.size g0 i G (Vn L s i k j (nmsTo L (cut s j (k + 1)) d)) ∧ Below w.heap.size w wq)
                            case atStart => exact ⟨0, by omega, rfl, rfl, HT4.out, HB4.out⟩
                            case round =>
                              clear HT4 HB4
                              obtain ⟨q, hqf, rfl, rfl, hT, hB⟩ := hrel
                              have HT5 := Lib.hid hT; have HB5 := Lib.hid hB
                              clear hT hB
                              by_cases hq : q < k
                              · obtain ⟨fq, rfl⟩ : ∃ f, gk = f + 1 := ⟨gk - 1, by omega⟩
                                have HSQ : Hid (((List.range (q + 1)).any fun q => der L (bu x.is 0).toNat (cut s j (q + 1)) && der L (bu x.is 1).toNat (cut s (j + q + 1) (k - q))) = (((List.range q).any fun q => der L (bu x.is 0).toNat (cut s j (q + 1)) && der L (bu x.is 1).toNat (cut s (j + q + 1) (k - q))) || (der L (bu x.is 0).toNat (cut s j (q + 1)) && der L (bu x.is 1).toNat (cut s (j + q + 1) (k - q))))) := Lib.hid (by rw [List.range_succ, List.any_append]; simp)
                                have c2 := HC2.out _ HB5.out
                                have t1 := HT5.out.top j (by omega)
                                have r1 := (HT5.out.rowc (i := j) (k := q) (by omega) (by omega)).1
                                rw [Vn_lt _ _ _ _ _ _ _ _ hq (by omega)] at r1
                                have t3 := HT5.out.top (j + q + 1) (by omega)
                                have r3 := (HT5.out.rowc (i := j + q + 1) (k := k - q - 1) (by omega) (by omega)).1
                                rw [Vn_lt _ _ _ _ _ _ _ _ (by omega) (by omega), show k - q - 1 + 1 = k - q by omega] at r3
                                have HPL1 := Lib.hid (fun W => place_at (nms L (cut s j (q + 1))) (bu x.is 0) W (by have := nms_len L (cut s j (q + 1)); omega))
                                have HPL2 := Lib.hid (fun W => place_at (nms L (cut s (j + q + 1) (k - q))) (bu x.is 1) W (by have := nms_len L (cut s (j + q + 1) (k - q)); omega))
                                have hq1 := plc_cases (nms L (cut s j (q + 1))) (bu x.is 0) 0
                                have hq2 := plc_cases (nms L (cut s (j + q + 1) (k - q))) (bu x.is 1) 0
                                rw [hasB_nms, decide_eq_true HX2.out.1, Bool.true_and] at hq1
                                rw [hasB_nms, decide_eq_true HX2.out.2, Bool.true_and] at hq2
                                generalize plc (nms L (cut s j (q + 1))) (bu x.is 0) 0 = z1 at *
                                generalize plc (nms L (cut s (j + q + 1) (k - q))) (bu x.is 1) 0 = z2 at *
                                generalize nms L (cut s j (q + 1)) = T1 at *
                                generalize nms L (cut s (j + q + 1) (k - q)) = T2 at *
                                generalize der L (bu x.is 0).toNat (cut s j (q + 1)) = D1 at *
                                generalize der L (bu x.is 1).toNat (cut s (j + q + 1) (k - q)) = D2 at *
                                generalize ((List.range q).any fun q => der L (bu x.is 0).toNat (cut s j (q + 1)) && der L (bu x.is 1).toNat (cut s (j + q + 1) (k - q))) = bq at *
                                have f1 : IntKind.i64.wrap ((j : Int) + (q : Int)) = (j : Int) + (q : Int) := i64_in _ (by omega)
                                have f2 : IntKind.i64.wrap ((j : Int) + (q : Int) + 1) = (j : Int) + (q : Int) + 1 := i64_in _ (by omega)
                                have f3 : IntKind.i64.wrap ((k : Int) - (q : Int)) = (k : Int) - (q : Int) := i64_in _ (by omega)
                                have f4 : IntKind.i64.wrap ((k : Int) - (q : Int) - 1) = (k : Int) - (q : Int) - 1 := i64_in _ (by omega)
                                have f5 : ((j : Int) + (q : Int) + 1).toNat = j + q + 1 := by omega
                                have f6 : ((k : Int) - (q : Int) - 1).toNat = k - q - 1 := by omega
                                have f7 : (0 : Int) ≤ (j : Int) + (q : Int) + 1 := by omega
                                have f8 : (j : Int) + (q : Int) + 1 < (i : Int) := by omega
                                have f9 : (0 : Int) ≤ (k : Int) - (q : Int) - 1 := by omega
                                have f10 : (k : Int) - (q : Int) - 1 < (i : Int) := by omega
                                have f11 : (j : Int) < (i : Int) := by omega
                                have f12 : (q : Int) < (i : Int) := by omega
                                have g8 : IntKind.i64.wrap ((q : Int) + 1) = (q : Int) + 1 := i64_in _ (by omega)
                                have g9 : (q : Int) < (k : Int) := by omega
                                rcases hq1 with ⟨rfl, rfl⟩ | ⟨rfl, p1, rfl⟩
                                · rw [Bool.false_and, Bool.or_false] at HSQ
                                  clear hq2
                                  go_wp2_with fail
                                  go_quiet ((go_at_call 15; first | (with_reducible exact Calls.quiet_of_same (HPL1.out _)) | (with_reducible exact Calls.quiet_of_same (HPL2.out _))))
                                  have HTQ := Lib.hid (HT5.out.below (below_drewN (Below.refl _ wr) nq))
                                  have HBQ := Lib.hid (below_drewN HB5.out nq)
                                  clear c2 t1 t3 r1 r3 f1 f2 f3 f4 f5 f6 f7 f8 f9 f10 f11 f12
                                  go_wp2_with fail
                                  go_roundg fq
                                  case measure => omega
                                  case rel => exact ⟨q + 1, by omega, by simp, by rw [HSQ.out], HTQ.out, HBQ.out⟩
                                · rcases hq2 with ⟨rfl, rfl⟩ | ⟨rfl, p2, rfl⟩
                                  · rw [Bool.and_false, Bool.or_false] at HSQ
                                    go_wp2_with fail
                                    go_quiet ((go_at_call 15; first | (with_reducible exact Calls.quiet_of_same (HPL1.out _)) | (with_reducible exact Calls.quiet_of_same (HPL2.out _))))
                                    have HTQ := Lib.hid (HT5.out.below (below_drewN (Below.refl _ wr) nq))
                                    have HBQ := Lib.hid (below_drewN HB5.out nq)
                                    clear c2 t1 t3 r1 r3 f1 f2 f3 f4 f5 f6 f7 f8 f9 f10 f11 f12
                                    go_wp2_with fail
                                    go_roundg fq
                                    case measure => omega
                                    case rel => exact ⟨q + 1, by omega, by simp, by rw [HSQ.out], HTQ.out, HBQ.out⟩
                                  · rw [Bool.and_self, Bool.or_true] at HSQ
                                    go_wp2_with fail
                                    go_quiet ((go_at_call 15; first | (with_reducible exact Calls.quiet_of_same (HPL1.out _)) | (with_reducible exact Calls.quiet_of_same (HPL2.out _))))
                                    have HTQ := Lib.hid (HT5.out.below (below_drewN (Below.refl _ wr) nq))
                                    have HBQ := Lib.hid (below_drewN HB5.out nq)
                                    clear c2 t1 t3 r1 r3 f1 f2 f3 f4 f5 f6 f7 f8 f9 f10 f11 f12
                                    go_wp2_with fail
                                    go_roundg fq
                                    case measure => omega
                                    case rel => exact ⟨q + 1, by omega, by simp, by rw [HSQ.out], HTQ.out, HBQ.out⟩
                              · obtain rfl : q = k := by omega
                                have HSN : Hid (((L.take (r + 1)).any fun x => x.nm.toNat == 65 + d && condR L s j q x) = ((List.range q).any fun q_1 => der L (bu x.is 0).toNat (cut s j (q_1 + 1)) && der L (bu x.is 1).toNat (cut s (j + q_1 + 1) (q - q_1)))) := Lib.hid (by rw [HST.out, HCR.out])
                                have HTQ := HT5; have HBQ := HB5
                                go_wp2_with fail
                                go_roundg fr
                                case measure => omega
                                case rel => exact ⟨r + 1, by omega, by simp, by rw [HSN.out], HTQ.out, HBQ.out⟩
                        · have HSN : Hid (((L.take (r + 1)).any fun x => x.nm.toNat == 65 + d && condR L s j k x) = true) := Lib.hid (by rw [HST.out]; simp)
                          clear HST
                          have HTQ := HT4; have HBQ := HB4
                          go_wp2_with fail
                          go_roundg fr
                          case measure => omega
                          case rel => exact ⟨r + 1, by omega, by simp, by rw [HSN.out], HTQ.out, HBQ.out⟩
                      · have n1 : ¬ (x.nm.toNat : Int) = 65 + (d : Int) := by omega
                        have n3 : ((x.nm.toNat : Int) == 65 + (d : Int)) = false := by simpa using n1
                        have n2 : (x.nm.toNat == 65 + d) = false := by simpa using hnm
                        have HSN : Hid (((L.take (r + 1)).any fun x => x.nm.toNat == 65 + d && condR L s j k x) = bb) := Lib.hid (by rw [HST.out, n2]; simp)
                        clear HST hnm n2
                        have HTQ := HT4; have HBQ := HB4
                        go_wp2_with fail
                        go_roundg fr
                        case measure => omega
                        case rel => exact ⟨r + 1, by omega, by simp, by rw [HSN.out], HTQ.out, HBQ.out⟩
                    · obtain rfl : r = m := by omega
                      have HDD := Lib.hid (HDC.out (65 + d))
                      rw [List.take_of_length_le (by omega), ← HDD.out]
                      have hxd := HX.out d hd
                      have HTQ := HT4; have HBQ := HB4
                      clear HT4 HB4
                      cases hdd : der L (65 + d) (cut s j (k + 1))
                      · rw [hdd] at hxd
                        have HXD := Lib.hid hxd
                        clear hxd hdd
                        go_wp2_with fail
                        go_roundg fd
                        case measure => omega
                        case rel => exact ⟨d + 1, by omega, congrArg (Value.int .i64) (by omega), by rw [HXD.out]; exact HTQ.out, HBQ.out⟩
                      · rw [hdd, if_pos rfl] at hxd
                        have HXD := Lib.hid hxd
                        have hlen := HXL.out d
                        clear hxd hdd
                        obtain ⟨x, hx⟩ : ∃ x : UInt8, UInt8.ofNat (65 + d) = x := ⟨_, rfl⟩
                        have hx2 : (x.toNat : Int) = 65 + (d : Int) := by rw [← hx]; simp; omega
                        rw [hx] at HXD
                        have HX3 := Lib.hid hx2
                        clear hx
                        generalize nmsTo L (cut s j (k + 1)) d = acc at *
                        have t1 := HTQ.out.top j (by omega)
                        obtain ⟨r1, r2⟩ := HTQ.out.rowc (i := j) (k := k) (by omega) hk
                        rw [Vn_at] at r1
                        have hcv : (convert 46 9 (.slice (some ⟨wr.heap.size, 0, none⟩) 1 1)).run Tryd.prog (wr.alloc (.cells #[.int .u8 (65 + (d : Int))] 5)).drew = .ok (S [x]) (wr.alloc (.cells #[.int .u8 (65 + (d : Int))] 5)).drew := run_convert_bytes_back (P := Tryd.prog) (wr.alloc (.cells #[.int .u8 (65 + (d : Int))] 5)).drew 46 9 5 ⟨wr.heap.size, 0, none⟩ 1 [x] Tryd.underlying46 Tryd.underlying5 Tryd.underlying9 (fun j hj => by
                          obtain rfl : j = 0 := by simpa using hj
                          show (wr.alloc _).cell? _ = _
                          simp [Addr.add, World.cell?_alloc_new, HX3.out])
                        have g5 : IntKind.u8.wrap ((65 : Int) + (d : Int)) = 65 + (d : Int) := by simp [IntKind.wrap, IntKind.bits, IntKind.signed]; omega
                        have g6 : (j : Int) < (i : Int) := by omega
                        have g7 : (k : Int) < (i : Int) := by omega
                        have g8 : j < i := by omega
                        have nb : ¬ 9223372036854775807 < acc.length + 1 := by omega
                        clear hx2
                        go_upto_region 31 with fail
                        have hw1 : Below wr.heap.size wr (wr.alloc (.cells #[.int .u8 (65 + (d : Int))] 5)).drew := ((Below.refl _ wr).alloc (Nat.le_refl _) _).drew
                        obtain ⟨q2, q1⟩ : (wr.alloc (.cells #[.int .u8 (65 + (d : Int))] 5)).cell? ⟨G j, k, none⟩ = some (S (Vn L s i k j acc j k)) ∧ (wr.alloc (.cells #[.int .u8 (65 + (d : Int))] 5)).frozen? ⟨G j, k, none⟩ = false := (HTQ.out.below hw1).rowc (i := j) (k := k) (by omega) hk
                        rw [Vn_at] at q2
                        have q3 : (wr.alloc (.cells #[.int .u8 (65 + (d : Int))] 5)).cell? ⟨g0, j, none⟩ = some (.slice (some ⟨G j, 0, none⟩) i i) := (HTQ.out.below hw1).top j (by omega)
                        have HS := Lib.hid (((HTQ.out.below hw1).set_ (i := j) (k := k) (v := acc ++ [x]) (by omega) hk).congr fun i' k' _ _ => Vn_set L s i k j acc (acc ++ [x]) i' k')
                        have HSB := Lib.hid ((HBQ.out.trans (hw1.mono HBQ.out.size)).setCell (p := ⟨G j, k, none⟩) (HTQ.out.lo j (by omega)) (S (acc ++ [x])))
                        clear hw1
                        go_region
                        all_goals
                          clear t1 r1 r2 hcv q1 q2 q3
                          go_wp2_with fail
                          go_roundg fd
                          case measure => omega
                          case rel => exact ⟨d + 1, by omega, congrArg (Value.int .i64) (by omega), by rw [HXD.out]; exact HS.out, HSB.out⟩
                · obtain rfl : d = 26 := by omega
                  have HT6 : Hid (TabS wr w.heap.size g0 i G (Vn L s i k (j + 1) [])) := Lib.hid (by
                    have := HT3.out
                    rw [HZN.out] at this
                    exact this.congr fun i' k' _ _ => Vn_next L s i k j hjk i' k')
                  have g9 : IntKind.i64.wrap ((j : Int) + 1) = (j : Int) + 1 := i64_in _ (by omega)
                  clear HT3
                  go_wp2_with fail
                  go_roundg fj
                  case measure => omega
                  case rel => exact ⟨j + 1, by omega, by simp, HT6.out, HB3.out⟩
            · have HT6 : Hid (TabS wr w.heap.size g0 i G (Vn L s i (k + 1) 0 [])) := Lib.hid (HT2.out.congr fun i' k' _ _ => Vn_longer L s i k j (by omega) i' k')
              have g2 : ¬ (j : Int) + (k : Int) < (i : Int) := by omega
              have g9 : IntKind.i64.wrap ((k : Int) + 1) = (k : Int) + 1 := i64_in _ (by omega)
              clear HT2
              go_wp2_with fail
              go_roundg fk
              case measure => omega
              case rel => exact ⟨k + 1, by omega, by simp, HT6.out, HB2.out⟩
        · obtain rfl : k = i := by omega
          have t1 := HT1.out.top 0 (by omega)
          have r1 := (HT1.out.rowc (i := 0) (k := k - 1) (by omega) (by omega)).1
          rw [Vn_lt _ _ _ _ _ _ _ _ (by omega) (by omega), show k - 1 + 1 = k by omega, show cut s 0 k = s by unfold cut; rw [List.drop_zero, List.take_of_length_le (by omega)]] at r1
          have f1 : IntKind.i64.wrap ((k : Int) - 1) = (k : Int) - 1 := i64_in _ (by omega)
          have f2 : ((k : Int) - 1).toNat = k - 1 := by omega
          have f3 : (0 : Int) ≤ (k : Int) - 1 := by omega
          have f4 : (k : Int) - 1 < (k : Int) := by omega
          have f5 : (0 : Int) < (k : Int) := by omega
          have f6 : 0 < k := by omega
          clear HT1
          go_wp2_with fail
          go_ret
          exact ⟨rfl, HB1.out⟩
end Go.Proofs.YtlbiklhndcamhaaDoor
