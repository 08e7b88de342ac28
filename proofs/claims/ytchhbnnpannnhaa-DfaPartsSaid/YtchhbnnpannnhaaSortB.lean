/- slices.Sort of at most twelve bytes, slices.Compact of bytes: the library's own text, walked (after the kit's Sort/WalkA and Shelf/SlicesE/Compact, turned to bytes). No condition. -/
import Derived.Test.YtchhbnnpannnhaaRegS
import Derived.Test.YtchhbnnpannnhaaWords
import Derived.Sort.WalkA
import Derived.Sort.WalkB12
import Derived.Deep.LoopGhost
import Derived.Lib.Walk
import Derived.Lib.SliceRun
import Derived.Lib.SlicesCompact
import Derived.Shelf.RegionOpenPlain
import Derived.Shelf.SlicesE.Compact
namespace Go.Proofs.Ytchhbnnpannnhaa
open Go.RowKit Go.Lib Go.Sort IntWalk

abbrev encB : UInt8 → Value := fun c => .int .u8 (c.toNat : Int)
def ltB (x y : UInt8) : Bool := decide (x.toNat < y.toNat)
theorem swoB : SWO ltB where
  irrefl x := by unfold ltB; simp
  trans x y z h1 h2 := by unfold ltB at *; simp at *; omega
  ntrans x y z h1 h2 := by unfold ltB at *; simp at *; omega
set_option maxHeartbeats 400000 in
theorem isnan_any (x : UInt8) (w : World) : Calls Try.prog 88 #[encB x] w fun e w' => e = .returned (.bool false) ∧ w' = w := by
  go_enter Try.func88, Try.ntmps88
  go_wp2
  go_ret
  exact ⟨rfl, rfl⟩
set_option maxHeartbeats 400000 in
theorem less_any (x y : UInt8) (w : World) : Calls Try.prog 82 #[encB x, encB y] w fun e w' => e = .returned (.bool (ltB x y)) ∧ w' = w := by
  have HL : Hid (ltB x y = decide (x.toNat < y.toNat)) := Lib.hid rfl
  generalize ltB x y = b at *
  have h1 := isnan_any x w
  have h2 := isnan_any y w
  go_enter Try.func82, Try.ntmps82
  go_wp2_with fail
  refine h1.mono ?_
  rintro e w' ⟨rfl, rfl⟩
  go_wp2_with fail
  go_ret
  exact ⟨by rw [HL.out]; rfl, rfl⟩
set_option maxRecDepth 100000 in
set_option maxHeartbeats 4000000 in
theorem insSort_any (blk off cap a b : Nat) (d : Array UInt8) (w : World) (hH : Holds encB w blk off d) (hab : a ≤ b) (hb : b ≤ d.size) (hsz : d.size < 4611686018427387904) :
    Calls Try.prog 76 #[.slice (some ⟨blk, off, none⟩) d.size cap, .int .i64 a, .int .i64 b] w fun e w' =>
      e = .returned (.tuple #[]) ∧ ∃ n, w' = putRow encB (Sort.ahead w n) blk off (Sort.insertionSort ltB d a b) := by
  go_enter Try.func76, Try.ntmps76
  go_wp2
  go_loopw [6] (fun vi wr => ∃ (i n : Nat) (dk : Array UInt8), vi = .int .i64 i ∧ a < i ∧ i ≤ b + 1 ∧ dk.size = d.size ∧ wr = putRow encB (Sort.ahead w n) blk off dk ∧
      insOuter ltB a b i dk = insOuter ltB a b (a + 1) d) (fun vi _ => b + 1 - (intOf vi).toNat)
  case atStart => exact ⟨a + 1, 0, d, by go_num, by omega, by omega, rfl, (putRow_self _ _ _ _ _ hH).symm, rfl⟩
  case round =>
    obtain ⟨i, n, dk, rfl, hai, hib, hsk, hwr, hO⟩ := hrel
    have HO : Hid (insOuter ltB a b i dk = insOuter ltB a b (a + 1) d) := hO
    clear hO
    go_wp2
    · go_loopw [7] (fun vj wr2 => ∃ (j m : Nat) (dj : Array UInt8), vj = .int .i64 j ∧ a ≤ j ∧ j ≤ i ∧ dj.size = d.size ∧ wr2 = putRow encB (Sort.ahead w m) blk off dj ∧
          insInner ltB a j dj = insInner ltB a i dk) (fun vj _ => (intOf vj).toNat)
      case atStart => exact ⟨i, n, dk, rfl, by omega, Nat.le_refl _, hsk, rfl, rfl⟩
      case round =>
        obtain ⟨j, m, dj, rfl, haj, hji, hsj, hw2, hI⟩ := hrel
        have hlt : i < b := by assumption
        obtain ⟨G, hG⟩ : ∃ G : Nat → UInt8, ∀ t, G t = dj[t]! := ⟨fun t => dj[t]!, fun _ => rfl⟩
        have hcw : ∀ t, t < d.size → wr.cell? ⟨blk, off + t, none⟩ = some (.int .u8 ((G t).toNat : Int)) := fun t ht => by
          rw [hw2, hG]; exact cell?_putRow _ _ _ _ d dj (holds_ahead _ _ _ _ _ _ hH) hsj t (by omega)
        have hfw : ∀ t, t < d.size → wr.frozen? ⟨blk, off + t, none⟩ = false := fun t ht => by
          rw [hw2, frozen?_putRow]; exact ((holds_ahead _ _ m _ _ _ hH) t ht).2
        have HW : Hid (wr = putRow encB (Sort.ahead w m) blk off dj) := hw2
        have HG : Hid (∀ t, G t = dj[t]!) := hG
        have HI : Hid (insInner ltB a j dj = insInner ltB a i dk) := hI
        clear hw2 hG hI hH
        have out : (j ≤ a ∨ ltB dj[j]! dj[j - 1]! = false) → ∀ q, ∃ i' n' dk', Value.int .i64 ((i : Int) + 1) = .int .i64 (i' : Nat) ∧ a < i' ∧ i' ≤ b + 1 ∧ dk'.size = d.size ∧
            wr.drewN q = putRow encB (Sort.ahead w n') blk off dk' ∧ insOuter ltB a b i' dk' = insOuter ltB a b (a + 1) d := fun hs q =>
          ⟨i + 1, m + q, dj, by go_num, by omega, by omega, hsj, by rw [HW.out]; exact putRow_drewN _ _ _ _ _ _ _,
            by rw [← HO.out, insOuter_go _ _ _ _ _ hlt, ← HI.out, insInner_stop _ _ _ _ hs]⟩
        have OUT : Hid _ := out
        clear out
        go_wp2
        by_cases hja : a < j
        · go_quiet (first | (go_at_call 82; refine Calls.quiet_of_same (less_any _ _ _)))
          go_wp2
          · have hl : ltB (G j) (G (j - 1)) = true := by assumption
            go_region
            all_goals go_wp2
            go_roundw
            case rel =>
              refine ⟨j - 1, m + (nq + 1), swp dj j (j - 1), by congr 1; omega, by omega, by omega, by rw [size_swp]; exact hsj, ?_, ?_⟩
              · rw [HW.out, HG.out, HG.out]
                exact swap_worldA _ w m (nq + 1) blk off dj j (j - 1) (by omega) (by omega)
              · rw [← HI.out, insInner_go ltB a j dj hja (by rw [← HG.out, ← HG.out]; exact hl)]
            case measure => simp [intOf]; omega
          · have hl : ltB (G j) (G (j - 1)) = false := by assumption
            go_roundw
            case rel => exact OUT.out (Or.inr (by rw [← HG.out, ← HG.out]; exact hl)) nq
            case measure => simp [intOf]; omega
        · go_quiet (first | (go_at_call 82; refine Calls.quiet_of_same (less_any _ _ _)))
          go_wp2
          go_roundw
          case rel => exact OUT.out (Or.inl (by omega)) nq
          case measure => simp [intOf]; omega
    · have hge : ¬ i < b := by assumption
      go_end0
      exact ⟨rfl, n, by unfold Sort.insertionSort; rw [← HO.out, insOuter_stop _ _ _ _ _ hge]⟩
set_option maxRecDepth 100000 in
set_option maxHeartbeats 1000000 in
theorem len64_any (n : Nat) (hn : n ≤ 12) (w : World) : Calls Try.prog 60 #[.int .u64 (n : Int)] w fun e w' => (∃ k, e = .returned (.int .i64 k)) ∧ w' = w := by
  have p1 : ¬ (4294967296 : Int) ≤ (n : Int) := by omega
  have p2 : ¬ (65536 : Int) ≤ (n : Int) := by omega
  have p3 : ¬ (256 : Int) ≤ (n : Int) := by omega
  have p4 : IntKind.u8.wrap (n : Int) = (n : Int) := by unfold IntKind.wrap; simp [IntKind.bits]; omega
  have p5 : (0 : Int) ≤ (n : Int) := by omega
  have p6 : (n : Int) < 256 := by omega
  have p7 : n < 256 := by omega
  go_enter Try.func60, Try.ntmps60
  go_wp2_with fail
  go_ret
  exact ⟨⟨_, rfl⟩, rfl⟩
set_option maxHeartbeats 400000 in
theorem len_any (n : Nat) (hn : n ≤ 12) (w : World) : Calls Try.prog 37 #[.int .u64 (n : Int)] w fun e w' => (∃ k, e = .returned (.int .i64 k)) ∧ w' = w := by
  have h1 := len64_any n hn w
  go_enter Try.func37, Try.ntmps37
  go_wp2_with fail
  refine h1.mono ?_
  rintro e w' ⟨⟨k, rfl⟩, rfl⟩
  go_wp2_with fail
  go_ret
  exact ⟨⟨k, rfl⟩, rfl⟩
set_option maxRecDepth 100000 in
set_option maxHeartbeats 1000000 in
theorem pdq_any (blk off cap : Nat) (k : Int) (d : Array UInt8) (w : World) (hH : Holds encB w blk off d) (h12 : d.size ≤ 12) :
    Calls Try.prog 75 #[.slice (some ⟨blk, off, none⟩) d.size cap, .int .i64 0, .int .i64 d.size, .int .i64 k] w fun e w' =>
      e = .returned (.tuple #[]) ∧ ∃ n, w' = putRow encB (Sort.ahead w n) blk off (Sort.insertionSort ltB d 0 d.size) := by
  have h1 := insSort_any blk off cap 0 d.size d w hH (Nat.zero_le _) (Nat.le_refl _) (by omega)
  have p1 : IntKind.i64.wrap ((d.size : Int) - 0) = (d.size : Int) := by rw [i64_in _ (by omega)]; omega
  have p1' : IntKind.i64.wrap (d.size : Int) = (d.size : Int) := i64_in _ (by omega)
  have p2 : (d.size : Int) ≤ 12 := by omega
  clear hH
  go_enter Try.func75, Try.ntmps75
  go_wp2_with fail
  refine wp_loop_rounds 1 ?_
  rw [rounds_succ]
  go_wp2_with fail
  refine h1.mono ?_
  rintro e w' ⟨rfl, n, rfl⟩
  go_wp2_with fail
  refine bodyPost_ret (results_none rfl _ _ _) rfl ?_
  exact ⟨rfl, n, rfl⟩
set_option maxHeartbeats 1000000 in
theorem sort_any (blk off cap : Nat) (d : Array UInt8) (w : World) (hH : Holds encB w blk off d) (h12 : d.size ≤ 12) :
    Calls Try.prog 72 #[.slice (some ⟨blk, off, none⟩) d.size cap] w fun e w' =>
      e = .returned (.tuple #[]) ∧ ∃ n, w' = putRow encB (Sort.ahead w n) blk off (Sort.insertionSort ltB d 0 d.size) := by
  have h1 := len_any d.size h12 w
  have h2 := fun k => pdq_any blk off cap k d w hH h12
  have p1 : IntKind.u64.wrap (d.size : Int) = (d.size : Int) := by unfold IntKind.wrap; simp [IntKind.bits]; omega
  clear hH
  go_enter Try.func72, Try.ntmps72
  go_wp2_with fail
  refine h1.mono ?_
  rintro e w' ⟨⟨k, rfl⟩, rfl⟩
  go_wp2_with fail
  refine (h2 k).mono ?_
  rintro e w' ⟨rfl, n, rfl⟩
  go_wp2_with fail
  go_end0
  exact ⟨rfl, n, rfl⟩
theorem same_dec (x y : UInt8) : ((x.toNat : Int) == (y.toNat : Int)) = decide (x = y) := by
  by_cases h : x = y
  · subst h; simp
  · have : ¬ x.toNat = y.toNat := fun e => h (UInt8.toNat_inj.1 e)
    simp [h]; omega
theorem oneB : OneCell encB := fun _ => rfl
set_option maxHeartbeats 4000000 in
set_option maxRecDepth 1000000 in
theorem compact_any (blk off cap : Nat) (d : Array UInt8) (w : World) (hH : Holds encB w blk off d) (hsz : d.size ≤ 9223372036854775807) (hcap : d.size ≤ cap) :
    Calls Try.prog 73 #[.slice (some ⟨blk, off, none⟩) d.size cap] w fun e w' => e = .returned (.slice (some ⟨blk, off, none⟩) (compactUpTo d d.size).length cap) ∧ ∃ q, w' = putRow encB (Sort.ahead w q) blk off (compactUpTo d d.size ++ List.replicate (d.size - (compactUpTo d d.size).length) 0).toArray := by
  have hO := oneB
  have v23 : ∀ w, (zeroValue 5).run Try.prog w = .ok (encB 0) w := fun w => by kernel_rfl
  have same : ∀ q, (∀ j, j < d.size → keeps d j = true) → (compactUpTo d d.size).length = d.size ∧ w.drewN q = putRow encB (Sort.ahead w q) blk off (compactUpTo d d.size ++ List.replicate (d.size - (compactUpTo d d.size).length) 0).toArray := by
    intro q hall
    have e : compactUpTo d d.size = d.toList := by rw [compactUpTo_all d _ hall, range_map_get]
    rw [e]
    refine ⟨by simp, ?_⟩
    simp only [Array.length_toList, Nat.sub_self, List.replicate_zero, List.append_nil, Array.toArray_toList]
    exact (putRow_self encB (Sort.ahead w q) blk off d (holds_ahead encB w q blk off d hH)).symm
  have HS : Aside (∀ q, (∀ j, j < d.size → keeps d j = true) → (compactUpTo d d.size).length = d.size ∧ w.drewN q = putRow encB (Sort.ahead w q) blk off (compactUpTo d d.size ++ List.replicate (d.size - (compactUpTo d d.size).length) 0).toArray) := same
  clear same
  by_cases h2 : d.size < 2
  · have HH : Aside (Holds encB w blk off d) := hH
    clear hH
    go_enter Try.func73, Try.ntmps73
    go_wp2
    go_ret
    obtain ⟨e1, e2⟩ := HS.out 0 (fun j hj => keeps_lt_one d j (by omega))
    exact ⟨by rw [e1]; rfl, 0, e2⟩
  · go_enter Try.func73, Try.ntmps73
    go_wp2
    go_loopg [3] d.size (fun g s3 wr => ∃ k q : Nat, 1 ≤ k ∧ k ≤ d.size ∧ d.size - k ≤ g ∧ s3 = .int .i64 k ∧ wr = w.drewN q ∧ ∀ j, j < k → keeps d j = true)
    case atStart => exact ⟨1, 0, Nat.le_refl _, by omega, by omega, rfl, rfl, keeps_lt_one d⟩
    case round =>
      obtain ⟨k, q, hk1, hk, hg, rfl, rfl, hall⟩ := hrel
      by_cases hlt : k < d.size
      · obtain ⟨c1, f1⟩ := hH k hlt
        obtain ⟨c0, f0⟩ := hH (k - 1) (by omega)
        have A : Aside (∀ j, j < k → keeps d j = true) := hall
        have HH : Aside (Holds encB w blk off d) := hH
        clear hall hH
        generalize hx : d[k]! = x at c1
        generalize hy : d[k - 1]! = y at c0
        have B : Aside (d[k]! = x ∧ d[k - 1]! = y) := ⟨hx, hy⟩
        clear hx hy
        obtain ⟨k0, rfl⟩ : ∃ k0, k = k0 + 1 := ⟨k - 1, by omega⟩
        rw [Nat.add_sub_cancel] at c0 f0
        have w1 : IntKind.i64.wrap (((k0 + 1 : Nat) : Int) - 1) = (k0 : Int) := by rw [i64_in _ (by omega)]; omega
        have w2 : (k0 : Int) < (d.size : Int) := by omega
        have w3 : ((k0 + 1 : Nat) : Int) < (d.size : Int) := by omega
        have w4 : (0 : Int) ≤ (k0 : Int) := by omega
        have w5 : IntKind.i64.wrap ((k0 : Int) + 1 - 1) = (k0 : Int) := by rw [i64_in _ (by omega)]; omega
        by_cases hdup : x = y
        · subst hdup
          go_wp2_with fail
          go_region
          all_goals go_wp2_with fail
          clear c0 c1 f0 f1
          go_loopg [3, 5] d.size (fun g s3 s5 wr => ∃ (kk k2 q2 : Nat) (dk : Array UInt8), s3 = .int .i64 kk ∧ s5 = .int .i64 k2 ∧ 1 ≤ k2 ∧ k0 + 1 + k2 ≤ d.size ∧ d.size - (k0 + 1 + k2) ≤ g ∧ wr = putRow encB (Sort.ahead w q2) blk off dk ∧ CompInv d (k0 + 1 + k2) kk dk)
          case atStart => exact ⟨k0 + 1, 1, q + 1, d, rfl, rfl, Nat.le_refl _, by omega, by omega, (putRow_self encB (Sort.ahead w (q + 1)) blk off d (holds_ahead encB w (q + 1) blk off d HH.out)).symm, CompInv.start A.out (keeps_neg (by omega) (by rw [B.out.1, B.out.2]))⟩
          case round =>
            obtain ⟨kk, k2, q2, dk, rfl, rfl, h1, hle, hg2, hwr, hI⟩ := hrel
            have hkk := hI.lt
            have hds := hI.size
            have hHk : Holds encB wr blk off dk := by rw [hwr]; exact holds_putRow encB _ blk off d dk (holds_ahead encB w q2 blk off d HH.out) hds
            have W2 : Aside (wr = putRow encB (Sort.ahead w q2) blk off dk) := hwr
            have I2 : Aside (CompInv d (k0 + 1 + k2) kk dk) := hI
            clear hwr
            by_cases hlt2 : k0 + 1 + k2 < d.size
            · obtain ⟨cm, _⟩ := hHk (k0 + 1 + k2) (by omega)
              obtain ⟨cp, _⟩ := hHk (k0 + 1 + k2 - 1) (by omega)
              obtain ⟨ck, fk⟩ := hHk kk (by omega)
              rw [hI.high (k0 + 1 + k2) (by omega), show off + (k0 + 1 + k2) = off + (k0 + 1) + k2 by omega] at cm
              rw [hI.high (k0 + 1 + k2 - 1) (by omega), show off + (k0 + 1 + k2 - 1) = off + (k0 + 1) + (k2 - 1) by omega] at cp
              clear hHk hI
              generalize hu : d[k0 + 1 + k2]! = u at cm
              generalize hv : d[k0 + 1 + k2 - 1]! = v at cp
              generalize dk[kk]! = old at ck
              have C : Aside (d[k0 + 1 + k2]! = u ∧ d[k0 + 1 + k2 - 1]! = v) := ⟨hu, hv⟩
              clear hu hv
              obtain ⟨k3, rfl⟩ : ∃ k3, k2 = k3 + 1 := ⟨k2 - 1, by omega⟩
              rw [Nat.add_sub_cancel] at cp
              have x1 : IntKind.i64.wrap (((k3 + 1 : Nat) : Int) - 1) = (k3 : Int) := by rw [i64_in _ (by omega)]; omega
              have x5 : IntKind.i64.wrap ((k3 : Int) + 1 - 1) = (k3 : Int) := by rw [i64_in _ (by omega)]; omega
              have x2 : (k3 : Int) < (d.size : Int) - (k0 + 1 : Nat) := by omega
              have x3 : ((k3 + 1 : Nat) : Int) < (d.size : Int) - (k0 + 1 : Nat) := by omega
              have x4 : (0 : Int) ≤ (k3 : Int) := by omega
              have x6 : k3 + 1 < d.size - (k0 + 1) := by omega
              have x7 : k3 < d.size - (k0 + 1) := by omega
              by_cases huv : u = v
              · subst huv
                go_wp2_with fail
                go_region
                all_goals go_wp2_with fail
                go_roundg (d.size - (k0 + 1 + (k3 + 1 + 1)))
                case measure => omega
                case rel => exact ⟨kk, k3 + 1 + 1, q2 + 1, dk, rfl, by go_num, by omega, by omega, Nat.le_refl _, by rw [W2.out]; rfl, I2.out.skip (keeps_neg (by omega) (by rw [C.out.1, C.out.2]))⟩
              · have he1 : ((u.toNat : Int) == (v.toNat : Int)) = false := by rw [same_dec]; simpa using huv
                have he2 : (u.toNat == v.toNat) = false := by simpa using fun e : u.toNat = v.toNat => huv (UInt8.toNat_inj.1 e)
                go_wp2_with fail
                go_region
                all_goals go_wp2_with fail
                go_roundg (d.size - (k0 + 1 + (k3 + 1 + 1)))
                case measure => omega
                case rel => exact ⟨kk + 1, k3 + 1 + 1, q2 + 1, dk.setIfInBounds kk u, by go_num, by go_num, by omega, by omega, Nat.le_refl _, store_world_e encB (by omega) W2.out u, by have := I2.out.keep hlt2 (keeps_pos (by rw [C.out.1, C.out.2]; exact huv)); rwa [C.out.1] at this⟩
            · have hend : k0 + 1 + k2 = d.size := by omega
              have hcl : ∀ ty, (Builtin.clear_ #[35] ty #[.slice (some ⟨blk, off + kk, none⟩) (d.size - kk) (cap - kk)]).run Try.prog wr = .ok (.tuple #[]) (wr.setCells blk (off + kk) (List.replicate (d.size - kk) (encB 0))) :=
                fun ty => Lib.run_clear_slice wr _ _ ty _ Try.underlying35 v23 (hO.cells 0) (hO 0) blk (off + kk) _ _ (by omega) (fun j hj => by rw [show off + kk + j = off + (kk + j) by omega, (hHk (kk + j) (by omega)).1]; rfl) (fun j hj => by rw [show off + kk + j = off + (kk + j) by omega]; exact (hHk (kk + j) (by omega)).2)
              clear hHk hI
              go_wp2
              go_ret
              have hI := I2.out
              rw [hend] at hI
              refine ⟨by rw [hI.len]; rfl, q2, ?_⟩
              rw [hI.len, ← hI.done 0, ← putRow_setCells encB _ blk off _ dk kk (by simp; omega), ← W2.out, List.map_replicate]
        · have hd1 : ((x.toNat : Int) == (y.toNat : Int)) = false := by rw [same_dec]; simpa using hdup
          have hd2 : (x.toNat == y.toNat) = false := by simpa using fun e : x.toNat = y.toNat => hdup (UInt8.toNat_inj.1 e)
          go_wp2_with fail
          go_region
          all_goals go_wp2_with fail
          go_roundg (d.size - (k0 + 1 + 1))
          case measure => omega
          case rel =>
            refine ⟨k0 + 1 + 1, q + 1, by omega, by omega, Nat.le_refl _, by go_num, rfl, fun j hj => ?_⟩
            by_cases e : j = k0 + 1
            · subst e
              exact keeps_pos (by rw [B.out.1, B.out.2]; exact hdup)
            · exact A.out j (by omega)
      · have : k = d.size := by omega
        subst this
        have HH : Aside (Holds encB w blk off d) := hH
        clear hH
        go_wp2
        go_ret
        obtain ⟨e1, e2⟩ := HS.out q hall
        exact ⟨by rw [e1]; rfl, q, e2⟩
end Go.Proofs.Ytchhbnnpannnhaa
