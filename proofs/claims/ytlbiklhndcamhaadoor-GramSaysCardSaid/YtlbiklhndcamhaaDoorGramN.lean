/- The walk over package gram's names: the table of all parts. -/
import Derived.Test.YtlbiklhndcamhaaDoorGramT
import Derived.StillTailTactics
namespace Go.Proofs.YtlbiklhndcamhaaDoor
open Go.RowKit GramM IntWalk
attribute [local go_sem] byte_at str_app

theorem str_mid (a : List UInt8) (i j : Nat) : (ByteArray.mk a.toArray).extract i j = ByteArray.mk ((a.drop i).take (j - i)).toArray := by
  rw [Lib.extract_eq]
theorem info_u32 : (Tryd.prog.info? 48).map (fun i => (i.zero, i.size, i.bytes)) = some (some (.int .u32 0), 1, 4) := by kernel_rfl
theorem info_row : (Tryd.prog.info? 49).map (fun i => (i.zero, i.size, i.bytes)) = some (some (.slice none 0 0), 1, 24) := by kernel_rfl

set_option maxRecDepth 100000 in
set_option maxHeartbeats 10000000 in
theorem names_any (L : List Ru) (s : List UInt8) (w : World) (A : Option Addr) (m c : Nat) (hR : Rules w w.heap.size A m L) (hm : m ≤ 10) (hok : L.all okR = true) (hs1 : 1 ≤ s.length) (hs : s.length ≤ 24) :
    Calls Tryd.prog 17 #[.slice A m c, S s] w fun e w' => ∃ g0 G, e = .returned (.slice (some ⟨g0, 0, none⟩) s.length s.length) ∧ Tab w' w.heap.size g0 s.length s.length G (Vt L s (s.length + 1) 0 0) ∧ Below w.heap.size w w' := by
  have hLm := hR.1
  obtain ⟨n, hn⟩ : ∃ n, s.length = n := ⟨_, rfl⟩
  have hn1 : 1 ≤ n := by omega
  have hn24 : n ≤ 24 := by omega
  obtain ⟨iu, hu, hu0, hu1, hu2⟩ := info_parts info_u32
  obtain ⟨ir, hr, hr0, hr1, hr2⟩ := info_parts info_row
  have mkT := mk_ints (P := Tryd.prog) Tryd.underlying50 hr hr0 hr1 rfl (by omega) n (by omega) w
  have HMK := Lib.hid mkT; clear mkT
  have HR := Lib.hid hR; clear hR
  have HOK := Lib.hid hok; clear hok
  go_enter Tryd.func17, Tryd.ntmps17
  have hmk := HMK.out
  go_wp2_with fail
  clear hmk
  have hT0 : Tab (w.alloc (.cells (List.replicate n (Value.slice none 0 0)).toArray 49)) w.heap.size w.heap.size n 0 (fun _ => 0) (Vt L s 1 0 0) := by
    refine ⟨?_, Nat.le_refl _, fun i hi => absurd hi (by omega), fun i hi => absurd hi (by omega), fun i j hi => absurd hi (by omega), by omega⟩
    have := Blk.new w 49 (List.replicate n (Value.slice none 0 0))
    have e : topV n 0 (fun _ => 0) = List.replicate n (Value.slice none 0 0) := by
      unfold topV
      rw [List.map_congr_left (g := fun _ => Value.slice none 0 0) (fun k _ => by simp), List.map_const', List.length_range]
    rw [e]
    exact this
  have HT0 := Lib.hid hT0; clear hT0
  go_loopg [20] n (fun f kv wr => ∃ i : Nat, ∃ G : Nat → Nat, i + f = n ∧ kv = .int .i64 (i : Int) ∧ Tab wr w.heap.size w.heap.size n i G (Vt L s 1 i 0) ∧ Below w.heap.size w wr)
  case atStart => exact ⟨0, _, by omega, rfl, HT0.out, (Below.refl _ _).alloc (Nat.le_refl _) _⟩
  case round =>
    obtain ⟨i, G, hif, rfl, hT, hB⟩ := hrel
    by_cases hi : i < n
    · obtain ⟨f', rfl⟩ : ∃ f, gk = f + 1 := ⟨gk - 1, by omega⟩
      obtain ⟨x1, x2⟩ := hT.topx hi
      have hmk2 := mk_ints (P := Tryd.prog) Tryd.underlying49 hu hu0 hu1 rfl (by omega) (n - i + 1) (by omega) wr
      rw [show ((n - i + 1 : Nat) : Int) = (n : Int) - (i : Int) + 1 by omega] at hmk2
      have hP : Tab ((wr.alloc (.cells (Array.replicate (n - i + 1) (.int .u32 0)) 48)).setCell ⟨w.heap.size, i, none⟩ (.slice (some ⟨wr.heap.size, 0, none⟩) (n - i + 1) (n - i + 1))) w.heap.size w.heap.size n (i + 1) (fun j => if j = i then wr.heap.size else G j) (Vt L s 1 i 0) := hT.push hi (Vt_row L s i)
      have hg0 := hT.top.lt
      have hg0' : w.heap.size < wr.heap.size := hT.top.lt
      have esw : (wr.alloc (.cells (Array.replicate (n - i + 1) (Value.int .u32 0)) 48)).setCell ⟨w.heap.size, i, none⟩ (.slice (some ⟨wr.heap.size, 0, none⟩) (n - i + 1) (n - i + 1)) = (wr.setCell ⟨w.heap.size, i, none⟩ (.slice (some ⟨wr.heap.size, 0, none⟩) (n - i + 1) (n - i + 1))).alloc (.cells (Array.replicate (n - i + 1) (Value.int .u32 0)) 48) := World.setCell_alloc_past _ _ _ _ hg0'
      rw [esw] at hP
      have HP := Lib.hid hP; clear hP
      have hbz := hB.size
      have hb2 : Below w.heap.size w ((wr.alloc (.cells (Array.replicate (n - i + 1) (Value.int .u32 0)) 48)).setCell ⟨w.heap.size, i, none⟩ (.slice (some ⟨wr.heap.size, 0, none⟩) (n - i + 1) (n - i + 1))) := (hB.alloc hbz _).setCell (p := ⟨w.heap.size, i, none⟩) (Nat.le_refl _) _
      rw [esw] at hb2
      have HB2 := Lib.hid hb2; clear hb2 hB hT esw hg0'
      go_wp2_with fail
      clear hmk2 x1 x2 hbz hg0
      generalize hG : (fun j => if j = i then wr.heap.size else G j) = G' at *
      clear hG
      generalize hW : (wr.setCell ⟨w.heap.size, i, none⟩ (.slice (some ⟨wr.heap.size, 0, none⟩) (n - i + 1) (n - i + 1))).alloc (.cells (Array.replicate (n - i + 1) (Value.int .u32 0)) 48) = w2 at *
      clear hW
      go_loopg [34] m (fun f jv wi => ∃ j : Nat, j + f = m ∧ jv = .int .i64 (j : Int) ∧ Tab wi w.heap.size w.heap.size n (i + 1) G' (Vt L s 1 i (one L s i j)) ∧ Below w.heap.size w wi)
      case atStart => exact ⟨0, by omega, rfl, by rw [one_zero]; exact HP.out, HB2.out⟩
      case round =>
        clear HP HB2
        obtain ⟨j, hjf, rfl, hT, hB⟩ := hrel
        by_cases hj : j < m
        · obtain ⟨f, rfl⟩ : ∃ f, gk = f + 1 := ⟨gk - 1, by omega⟩
          obtain ⟨b, off, rfl, hb, hc⟩ := (HR.out.below hB).2 (by omega)
          obtain ⟨c1, c2⟩ := hc j hj
          have hor := List.all_eq_true.1 HOK.out _ (ru_mem (L := L) (j := j) (by omega))
          have hnm : 65 ≤ (ru L j).nm.toNat ∧ (ru L j).nm.toNat ≤ 90 := by unfold okR at hor; simp at hor; exact hor.1
          have hos := one_succ (L := L) (s := s) (i := i) (j := j) (by omega) hnm
          have HOS := Lib.hid hos
          have hT1 := hT.alloc (.cells #[.int .u8 ((ru L j).nm.toNat : Int), S (ru L j).is] 35)
          have hB1 := hB.alloc hB.size (.cells #[.int .u8 ((ru L j).nm.toNat : Int), S (ru L j).is] 35)
          have d0 : (wr.alloc (.cells #[.int .u8 ((ru L j).nm.toNat : Int), S (ru L j).is] 35)).cell? ⟨wr.heap.size, 0, none⟩ = some (.int .u8 ((ru L j).nm.toNat : Int)) := by simp
          have d1 : (wr.alloc (.cells #[.int .u8 ((ru L j).nm.toNat : Int), S (ru L j).is] 35)).cell? ⟨wr.heap.size, 1, none⟩ = some (S (ru L j).is) := by simp
          have HT1 := Lib.hid hT1; have HB1 := Lib.hid hB1; have HD0 := Lib.hid d0; have HD1 := Lib.hid d1
          clear hos hor hT hB hT1 hB1 d0 d1 hc
          go_wp2_with fail
          clear c1 c2
          generalize wr.alloc (.cells #[.int .u8 ((ru L j).nm.toNat : Int), S (ru L j).is] 35) = w3 at *
          generalize wr.heap.size = g at *
          generalize ru L j = r at *
          have d0 := HD0.out; have d1 := HD1.out
          have hsm : (ByteArray.mk s.toArray).extract i (i + 1) = ByteArray.mk (cut s i 1).toArray := by rw [str_mid, show i + 1 - i = 1 by omega]; rfl
          have f1 : IntKind.i64.wrap ((i : Int) + 1) = (i : Int) + 1 := i64_in _ (by omega)
          have f2 : ((i : Int) + 1).toNat = i + 1 := by omega
          have f3 : (i : Int) + 1 ≤ (n : Int) := by omega
          have f4 : (0 : Int) ≤ (i : Int) + 1 := by omega
          by_cases hri : r.is = cut s i 1
          · have hO : one L s i (j + 1) = one L s i j ||| 2 ^ (r.nm.toNat - 65) := by rw [HOS.out, if_pos hri]
            have HO := Lib.hid hO; clear hO HOS
            rw [hri] at d1
            go_quiet (fail)
            clear f1 f2 f3 f4 hsm d0 d1
            go_wp2_with fail
            have hT4 := HT1.out.drewN nq
            have hB4 := below_drewN HB1.out nq
            have d0 : (w3.drewN nq).cell? ⟨g, 0, none⟩ = some (.int .u8 (r.nm.toNat : Int)) := HD0.out
            generalize w3.drewN nq = w4 at *
            clear HT1 HB1 HD0 HD1
            obtain ⟨t1, t2⟩ := hT4.topc (show i < i + 1 by omega)
            obtain ⟨r1, r2⟩ := hT4.rowc (show i < i + 1 by omega) (show 1 ≤ n - i by omega)
            rw [Vt_at _ _ _ _ _ (by omega)] at r1
            have hset := hT4.drew.set_ (v := one L s i (j + 1)) (show i < i + 1 by omega) (show 1 ≤ n - i by omega)
            have HSET := Lib.hid (Tab.congr hset fun i' k' _ _ => Vt_set L s 1 i _ (one L s i (j + 1)) (by omega) i' k')
            have hB5 : Below w.heap.size w w4.drew := below_drewN hB4 1
            have HB5 := Lib.hid (hB5.setCell (p := ⟨G' i, 1, none⟩) (Nat.le_of_lt (hT4.lo i (by omega))) (.int .u32 ((one L s i (j + 1) : Nat) : Int)))
            have r1' : w4.drew.cell? ⟨G' i, 1, none⟩ = some (.int .u32 ((one L s i j : Nat) : Int)) := r1
            have r2' : w4.drew.frozen? ⟨G' i, 1, none⟩ = false := r2
            have ho := or_u32 (one L s i j) (2 ^ (r.nm.toNat - 65)) (Nat.lt_trans (mk_lt _) (by omega)) (Nat.lt_of_le_of_lt (Nat.pow_le_pow_right (by omega) (show r.nm.toNat - 65 ≤ 25 by omega)) (by omega))
            rw [← HO.out, Nat.cast_pow_two] at ho
            clear hset hT4 hB4 hB5
            have f5 : (1 : Int) < ((n - i : Nat) : Int) + 1 := by omega
            have f6 : 1 < n - i + 1 := by omega
            go_still_tail 12, (by kernel_rfl)
            still_call (bit_any _ _ hnm)
            repeat still_step
            refine wpStill_nil ?_
            change wpList _ _ _ _ _ w4.drew
            generalize w4.drew = w5 at *
            clear r1 r2 t1 t2
            go_wp2_with fail
            go_roundg f
            case measure => omega
            case rel => exact ⟨j + 1, by omega, by simp, HSET.out, HB5.out⟩
          · have hO : one L s i (j + 1) = one L s i j := by rw [HOS.out, if_neg hri]
            have HO := Lib.hid hO; clear hO HOS
            have hb1 : (r.is == cut s i 1) = false := by simpa using hri
            go_quiet (fail)
            clear f1 f2 f3 f4 hsm d0 d1
            go_wp2_with fail
            go_roundg f
            case measure => omega
            case rel => exact ⟨j + 1, by omega, by simp, by rw [HO.out]; exact HT1.out.drewN nq, below_drewN HB1.out nq⟩
        · obtain rfl : j = m := by omega
          have hol := one_last (L := L) (s := s) (i := i) (by omega)
          rw [hLm] at hol
          rw [hol] at hT
          have HT2 := Lib.hid (hT.congr fun i' k' _ _ => Vt_next L s 1 i i' k')
          have HB2 := Lib.hid hB
          clear hol hT hB
          go_wp2_with fail
          go_roundg f'
          case measure => omega
          case rel => exact ⟨i + 1, G', by omega, by simp, HT2.out, HB2.out⟩
    · obtain rfl : n = i := by omega
      have hT2 := hT.congr (V' := Vt L s 2 0 0) fun i' k' h1 h2 => Vt_longer L s 1 n n (by omega) i' k' h2 h1
      have HT2 := Lib.hid hT2
      have HB2 := Lib.hid hB
      clear hT hT2 hB
      go_wp2_with fail
      go_loopg [10] (n - 1) (fun f lv wl => ∃ l : Nat, 2 ≤ l ∧ l + f = n + 1 ∧ lv = .int .i64 (l : Int) ∧ Tab wl w.heap.size w.heap.size n n G (Vt L s l 0 0) ∧ Below w.heap.size w wl)
      case atStart => exact ⟨2, by omega, by omega, rfl, HT2.out, HB2.out⟩
      case round =>
        clear HT2 HB2 HMK HT0 hif hi
        obtain ⟨l, hl2, hlf, rfl, hT, hB⟩ := hrel
        have HT3 := Lib.hid hT; have HB3 := Lib.hid hB
        clear hT hB
        by_cases hln : l ≤ n
        · obtain ⟨fl, rfl⟩ : ∃ f, gk = f + 1 := ⟨gk - 1, by omega⟩
          have dl1 : decide ((l : Int) ≤ (n : Int)) = true := decide_eq_true (by omega)
          have dl2 : decide (l ≤ n) = true := decide_eq_true hln
          go_wp2_with fail
          go_loopg [11] n (fun f iv wl => ∃ i : Nat, i + f = n ∧ iv = .int .i64 (i : Int) ∧ Tab wl w.heap.size w.heap.size n n G (Vt L s l i 0) ∧ Below w.heap.size w wl)
          case atStart => exact ⟨0, by omega, rfl, HT3.out, HB3.out⟩
          case round =>
            clear HT3 HB3
            obtain ⟨i, hif, rfl, hT, hB⟩ := hrel
            have HT3 := Lib.hid hT; have HB3 := Lib.hid hB
            clear hT hB
            by_cases hil : i + l ≤ n
            · obtain ⟨fi, rfl⟩ : ∃ f, gk = f + 1 := ⟨gk - 1, by omega⟩
              have di1 : decide ((i : Int) + (l : Int) ≤ (n : Int)) = true := decide_eq_true (by omega)
              go_wp2_with fail
              go_loopg [12] (l - 1) (fun f kv wl => ∃ k : Nat, 1 ≤ k ∧ k + f = l ∧ kv = .int .i64 (k : Int) ∧ Tab wl w.heap.size w.heap.size n n G (Vt L s l i (some_ L s i l k 0)) ∧ Below w.heap.size w wl)
              case atStart => exact ⟨1, by omega, by omega, rfl, by rw [some_zero]; exact HT3.out, HB3.out⟩
              case round =>
                clear HT3 HB3
                obtain ⟨k, hk1, hkf, rfl, hT, hB⟩ := hrel
                have HT3 := Lib.hid hT; have HB3 := Lib.hid hB
                clear hT hB
                by_cases hk : k < l
                · obtain ⟨fk, rfl⟩ : ∃ f, gk = f + 1 := ⟨gk - 1, by omega⟩
                  have dk1 : decide ((k : Int) < (l : Int)) = true := decide_eq_true (by omega)
                  have dk2 : decide (k < l) = true := decide_eq_true hk
                  go_wp2_with fail
                  go_loopg [81] m (fun f jv wl => ∃ j : Nat, j + f = m ∧ jv = .int .i64 (j : Int) ∧ Tab wl w.heap.size w.heap.size n n G (Vt L s l i (some_ L s i l k j)) ∧ Below w.heap.size w wl)
                  case atStart => exact ⟨0, by omega, rfl, HT3.out, HB3.out⟩
                  case round =>
                    clear HT3 HB3
                    obtain ⟨j, hjf, rfl, hT, hB⟩ := hrel
                    by_cases hj : j < m
                    · obtain ⟨f, rfl⟩ : ∃ f, gk = f + 1 := ⟨gk - 1, by omega⟩
                      obtain ⟨b, off, rfl, hb, hc⟩ := (HR.out.below hB).2 (by omega)
                      obtain ⟨c1, c2⟩ := hc j hj
                      have hor := List.all_eq_true.1 HOK.out _ (ru_mem (L := L) (j := j) (by omega))
                      have hnm : 65 ≤ (ru L j).nm.toNat ∧ (ru L j).nm.toNat ≤ 90 := by unfold okR at hor; simp at hor; exact hor.1
                      have h2r : (ru L j).is.length = 2 → (65 ≤ (bu (ru L j).is 0).toNat ∧ (bu (ru L j).is 0).toNat ≤ 90) ∧ (65 ≤ (bu (ru L j).is 1).toNat ∧ (bu (ru L j).is 1).toNat ≤ 90) := fun h => by
                        unfold okR at hor; rw [h] at hor; simp at hor; omega
                      have hos := some_succ (L := L) (s := s) (i := i) (n := l) (k := k) (j := j) (by omega) hnm
                      have HOS := Lib.hid hos
                      have H2R := Lib.hid h2r
                      have hT1 := hT.alloc (.cells #[.int .u8 ((ru L j).nm.toNat : Int), S (ru L j).is] 35)
                      have hB1 := hB.alloc hB.size (.cells #[.int .u8 ((ru L j).nm.toNat : Int), S (ru L j).is] 35)
                      have d0 : (wr.alloc (.cells #[.int .u8 ((ru L j).nm.toNat : Int), S (ru L j).is] 35)).cell? ⟨wr.heap.size, 0, none⟩ = some (.int .u8 ((ru L j).nm.toNat : Int)) := by simp
                      have d1 : (wr.alloc (.cells #[.int .u8 ((ru L j).nm.toNat : Int), S (ru L j).is] 35)).cell? ⟨wr.heap.size, 1, none⟩ = some (S (ru L j).is) := by simp
                      have HT1 := Lib.hid hT1; have HB1 := Lib.hid hB1; have HD0 := Lib.hid d0; have HD1 := Lib.hid d1
                      clear hos hor hT hB hT1 hB1 d0 d1 hc h2r
                      go_wp2_with fail
                      clear c1 c2
                      generalize wr.alloc (.cells #[.int .u8 ((ru L j).nm.toNat : Int), S (ru L j).is] 35) = w3 at *
                      generalize wr.heap.size = g at *
                      generalize ru L j = r at *
                      have d0 := HD0.out; have d1 := HD1.out
                      by_cases hl2 : r.is.length = 2
                      · obtain ⟨ha, hb2⟩ := H2R.out hl2
                        have hfit : fits L s i l k r = (der L (bu r.is 0).toNat (cut s i k) && der L (bu r.is 1).toNat (cut s (i + k) (l - k))) := by unfold fits; rw [hl2]; rfl
                        obtain ⟨z1, z2⟩ := full_and L s i k (bu r.is 0).toNat ha.1 ha.2
                        obtain ⟨y1, y2⟩ := full_and L s (i + k) (l - k) (bu r.is 1).toNat hb2.1 hb2.2
                        have HZ1 := Lib.hid z1; have HZ2 := Lib.hid z2; have HY1 := Lib.hid y1; have HY2 := Lib.hid y2
                        have HFIT := Lib.hid hfit
                        have e1 : ((r.is.length : Int) == 2) = true := by simp; omega
                        have e2 : 0 < r.is.length := by omega
                        have e3 : 1 < r.is.length := by omega
                        obtain ⟨t1, t2⟩ := HT1.out.topc (show i < n by omega)
                        obtain ⟨r1, r2⟩ := HT1.out.rowc (show i < n by omega) (show k ≤ n - i by omega)
                        rw [Vt_lt _ _ _ _ _ _ _ hk1 hk] at r1
                        obtain ⟨t3, t4⟩ := HT1.out.topc (show i + k < n by omega)
                        obtain ⟨r3, r4⟩ := HT1.out.rowc (show i + k < n by omega) (show l - k ≤ n - (i + k) by omega)
                        rw [Vt_lt _ _ _ _ _ _ _ (by omega) (by omega)] at r3
                        have f1 : IntKind.i64.wrap ((i : Int) + (k : Int)) = (i : Int) + (k : Int) := i64_in _ (by omega)
                        have f2 : IntKind.i64.wrap ((l : Int) - (k : Int)) = (l : Int) - (k : Int) := i64_in _ (by omega)
                        have f3 : ((i : Int) + (k : Int)).toNat = i + k := by omega
                        have f4 : ((l : Int) - (k : Int)).toNat = l - k := by omega
                        have f5 : (k : Int) < ((n - i : Nat) : Int) + 1 := by omega
                        have f6 : (i : Int) + (k : Int) < (n : Int) := by omega
                        have f7 : (0 : Int) ≤ (i : Int) + (k : Int) := by omega
                        have f8 : (l : Int) - (k : Int) < ((n - (i + k) : Nat) : Int) + 1 := by omega
                        have f9 : (0 : Int) ≤ (l : Int) - (k : Int) := by omega
                        have HF1 := Lib.hid f1; have HF2 := Lib.hid f2; have HF3 := Lib.hid f3; have HF4 := Lib.hid f4
                        clear z1 z2 y1 y2 hfit f1 f2 f3 f4 hl2
                        cases hP1 : der L (bu r.is 0).toNat (cut s i k)
                        · have HS : Hid (some_ L s i l k (j + 1) = some_ L s i l k j) := Lib.hid (by rw [HOS.out, if_neg]; rw [HFIT.out, hP1]; simp)
                          have q1 := HZ1.out hP1
                          clear HOS HFIT hP1
                          have f1 := HF1.out; have f2 := HF2.out; have f3 := HF3.out; have f4 := HF4.out
                          go_quiet ((go_at_call 20; exact Calls.quiet_of_same (bit_any _ _ (by assumption))))
                          clear f1 f2 f3 f4 d0 d1 q1 r1 r2 r3 r4 t1 t2 t3 t4 e1 e2 e3
                          go_wp2_with fail
                          go_roundg f
                          case measure => omega
                          case rel => exact ⟨j + 1, by omega, by simp, by rw [HS.out]; exact HT1.out.drewN nq, below_drewN HB1.out nq⟩
                        · obtain ⟨z, hz, q1⟩ := HZ2.out hP1
                          have q2 : ((z : Int) == 0) = false := by simp; omega
                          have q3 : ((z : Int) != 0) = true := by simp; omega
                          cases hP2 : der L (bu r.is 1).toNat (cut s (i + k) (l - k))
                          · have HS : Hid (some_ L s i l k (j + 1) = some_ L s i l k j) := Lib.hid (by rw [HOS.out, if_neg]; rw [HFIT.out, hP1, hP2]; simp)
                            have q4 := HY1.out hP2
                            clear HOS HFIT hP1 hP2
                            have f1 := HF1.out; have f2 := HF2.out; have f3 := HF3.out; have f4 := HF4.out
                            go_quiet ((go_at_call 20; exact Calls.quiet_of_same (bit_any _ _ (by assumption))))
                            clear f1 f2 f3 f4 d0 d1 q1 q2 q3 q4 r1 r2 r3 r4 t1 t2 t3 t4 e1 e2 e3
                            go_wp2_with fail
                            go_roundg f
                            case measure => omega
                            case rel => exact ⟨j + 1, by omega, by simp, by rw [HS.out]; exact HT1.out.drewN nq, below_drewN HB1.out nq⟩
                          · have HS : Hid (some_ L s i l k (j + 1) = some_ L s i l k j ||| 2 ^ (r.nm.toNat - 65)) := Lib.hid (by rw [HOS.out, if_pos]; rw [HFIT.out, hP1, hP2]; rfl)
                            obtain ⟨y, hy, q4⟩ := HY2.out hP2
                            have q5 : ((y : Int) == 0) = false := by simp; omega
                            have q6 : ((y : Int) != 0) = true := by simp; omega
                            clear HOS HFIT hP1 hP2
                            have f1 := HF1.out; have f2 := HF2.out; have f3 := HF3.out; have f4 := HF4.out
                            go_quiet ((go_at_call 20; exact Calls.quiet_of_same (bit_any _ _ (by assumption))))
                            clear f1 f2 f3 f4 d0 d1 q1 q2 q3 q4 q5 q6 r1 r2 r3 r4 t1 t2 t3 t4 e1 e2 e3
                            go_wp2_with fail
                            have hT4 := HT1.out.drewN nq
                            have hB4 := below_drewN HB1.out nq
                            have d0 : (w3.drewN nq).cell? ⟨g, 0, none⟩ = some (.int .u8 (r.nm.toNat : Int)) := HD0.out
                            generalize w3.drewN nq = w4 at *
                            clear HT1 HB1 HD0 HD1
                            obtain ⟨t1, t2⟩ := hT4.topc (show i < n by omega)
                            obtain ⟨r1, r2⟩ := hT4.rowc (show i < n by omega) (show l ≤ n - i by omega)
                            rw [Vt_at _ _ _ _ _ (by omega)] at r1
                            have hset := hT4.drew.set_ (v := some_ L s i l k (j + 1)) (show i < n by omega) (show l ≤ n - i by omega)
                            have HSET := Lib.hid (Tab.congr hset fun i' k' _ _ => Vt_set L s l i _ (some_ L s i l k (j + 1)) (by omega) i' k')
                            have hB5 : Below w.heap.size w w4.drew := below_drewN hB4 1
                            have HB5 := Lib.hid (hB5.setCell (p := ⟨G i, l, none⟩) (Nat.le_of_lt (hT4.lo i (by omega))) (.int .u32 ((some_ L s i l k (j + 1) : Nat) : Int)))
                            have r1' : w4.drew.cell? ⟨G i, l, none⟩ = some (.int .u32 ((some_ L s i l k j : Nat) : Int)) := r1
                            have r2' : w4.drew.frozen? ⟨G i, l, none⟩ = false := r2
                            have ho := or_u32 (some_ L s i l k j) (2 ^ (r.nm.toNat - 65)) (Nat.lt_trans (mk_lt _) (by omega)) (Nat.lt_of_le_of_lt (Nat.pow_le_pow_right (by omega) (show r.nm.toNat - 65 ≤ 25 by omega)) (by omega))
                            rw [← HS.out, Nat.cast_pow_two] at ho
                            clear hset hT4 hB4 hB5
                            have f5' : (l : Int) < ((n - i : Nat) : Int) + 1 := by omega
                            have f6' : i < n := by omega
                            go_still_tail 13, (by kernel_rfl)
                            still_call (bit_any _ _ hnm)
                            repeat still_step
                            refine wpStill_nil ?_
                            change wpList _ _ _ _ _ w4.drew
                            generalize w4.drew = w5 at *
                            clear r1 r2 t1 t2
                            go_wp2_with fail
                            go_roundg f
                            case measure => omega
                            case rel => exact ⟨j + 1, by omega, by simp, HSET.out, HB5.out⟩
                      · have e1 : ((r.is.length : Int) == 2) = false := by simp; omega
                        have HS : Hid (some_ L s i l k (j + 1) = some_ L s i l k j) := Lib.hid (by
                          rw [HOS.out, if_neg]
                          unfold fits
                          have : (r.is.length == 2) = false := by simpa using hl2
                          rw [this]; simp)
                        clear HOS hl2
                        go_quiet (fail)
                        clear d0 d1 e1
                        go_wp2_with fail
                        go_roundg f
                        case measure => omega
                        case rel => exact ⟨j + 1, by omega, by simp, by rw [HS.out]; exact HT1.out.drewN nq, below_drewN HB1.out nq⟩
                    · obtain rfl : j = m := by omega
                      have hol := some_next (L := L) (s := s) (i := i) (n := l) (k := k) hk1
                      rw [hLm] at hol
                      rw [hol] at hT
                      have HT2 := Lib.hid hT
                      have HB2 := Lib.hid hB
                      clear hol hT hB
                      go_wp2_with fail
                      go_roundg fk
                      case measure => omega
                      case rel => exact ⟨k + 1, by omega, by omega, by simp, HT2.out, HB2.out⟩
                · obtain rfl : k = l := by omega
                  have hsl := some_last (L := L) (s := s) (i := i) (n := k) hl2 (by omega)
                  have HT4 : Hid (Tab wr w.heap.size w.heap.size n n G (Vt L s k (i + 1) 0)) := Lib.hid (by
                    have := HT3.out
                    rw [hsl] at this
                    exact this.congr fun i' k' _ _ => Vt_next L s k i i' k')
                  clear hsl HT3
                  go_wp2_with fail
                  go_roundg fi
                  case measure => omega
                  case rel => exact ⟨i + 1, by omega, by simp, HT4.out, HB3.out⟩
            · have HT4 : Hid (Tab wr w.heap.size w.heap.size n n G (Vt L s (l + 1) 0 0)) := Lib.hid (HT3.out.congr fun i' k' h1 h2 => Vt_longer L s l i n (by omega) i' k' h2 h1)
              have hil' : n < i + l := by omega
              clear HT3
              go_wp2_with fail
              go_roundg fl
              case measure => omega
              case rel => exact ⟨l + 1, by omega, by omega, by simp, HT4.out, HB3.out⟩
        · obtain rfl : l = n + 1 := by omega
          go_wp2_with fail
          go_ret
          exact ⟨_, G, by rw [hn]; rfl, by rw [hn]; exact HT3.out, HB3.out⟩
end Go.Proofs.YtlbiklhndcamhaaDoor
