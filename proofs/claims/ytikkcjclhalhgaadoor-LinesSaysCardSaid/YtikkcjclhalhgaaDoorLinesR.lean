/- The walks over the document's answers for lines. -/
import Derived.Test.YtikkcjclhalhgaaDoorLinesF
import Derived.Test.YtikkcjclhalhgaaDoorLinesP
namespace Go.Proofs.YtikkcjclhalhgaaDoor
open Go.RowKit LinesM

set_option maxHeartbeats 400000 in
theorem rin_any (n lo hi : Int) (w : World) :
    Calls Tryd.prog 13 #[.int .i64 n, .int .i64 lo, .int .i64 hi] w fun e w' => e = .returned (.bool (decide (lo ≤ n ∧ n ≤ hi))) ∧ w = w' := by
  by_cases h1 : lo ≤ n
  · by_cases h2 : n ≤ hi
    all_goals
      go_enter Tryd.func13, Tryd.ntmps13
      go_wp2
      go_ret
      exact ⟨by simp [h1, h2], rfl⟩
  · go_enter Tryd.func13, Tryd.ntmps13
    go_wp2
    go_ret
    exact ⟨ret_bool (by simp [show ¬ lo ≤ n from by omega]), rfl⟩

set_option maxHeartbeats 400000 in
theorem rlines_any (wide : Int) (A : Option Addr) (n c : Nat) (l : List Int) (w : World) (B : Nat) (hA : Ints w B A n l) (hm : n ≤ 9223372036854775807) :
    Calls Tryd.prog 4 #[.int .i64 wide, .slice A n c] w fun e w' => e = .returned (.int .i64 (chk wide l)) ∧ w = w' := by
  have hln := hA.1
  by_cases hw : 1 ≤ wide ∧ wide ≤ 30
  · have HW := Lib.hid (show decide (1 ≤ wide ∧ wide ≤ 30) = true from by simpa using hw)
    by_cases h20 : n ≤ 20
    · go_enter Tryd.func4, Tryd.ntmps4
      go_wp2_with fail
      refine (rin_any _ _ _ _).mono ?_
      rintro e w' ⟨rfl, rfl⟩
      rw [HW.out]
      obtain ⟨hw1, hw2⟩ := hw
      go_wp2_with fail
      go_loop [5] (fun i => ∃ k : Nat, k ≤ n ∧ i = .int .i64 k ∧ ∀ j, j < k → 1 ≤ gi l j ∧ gi l j ≤ wide) (fun i => n - (intOf i).toNat)
      case atStart => exact ⟨0, Nat.zero_le _, rfl, fun j h => absurd h (by omega)⟩
      case round =>
        obtain ⟨k, hk, rfl, hall⟩ := hrel
        have HA := Lib.hid hall; clear hall
        by_cases hlt : k < n
        · obtain ⟨b, off, rfl, hB, hc⟩ := hA.at_ hlt
          by_cases hok : 1 ≤ gi l k ∧ gi l k ≤ wide
          · have HO := Lib.hid (show decide (1 ≤ gi l k ∧ gi l k ≤ wide) = true from by simpa using hok)
            have HO' := Lib.hid hok
            clear hok
            go_wp2_with fail
            refine (rin_any _ _ _ _).mono ?_
            rintro e w' ⟨rfl, rfl⟩
            rw [HO.out]
            go_wp2_with fail
            go_round
            case rel => exact ⟨k + 1, by omega, by go_num, fun j hj => by
              by_cases e : j = k
              · rw [e]; exact HO'.out
              · exact HA.out j (by omega)⟩
            case measure => simp [intOf]; omega
          · have HO := Lib.hid (show decide (1 ≤ gi l k ∧ gi l k ≤ wide) = false from by simpa using hok)
            have Hc := Lib.hid (chk_calls_aux wide l k (by omega) hok ⟨hw1, hw2⟩ (by omega))
            clear hok
            go_wp2_with fail
            refine (rin_any _ _ _ _).mono ?_
            rintro e w' ⟨rfl, rfl⟩
            rw [HO.out]
            go_wp2_with fail
            go_ret
            exact ⟨by rw [Hc.out]; rfl, rfl⟩
        · have Hc := Lib.hid (chk_ok wide l (fun j hj => HA.out j (by omega)) ⟨hw1, hw2⟩ (by omega))
          go_wp2_with fail
          go_ret
          exact ⟨by rw [Hc.out]; rfl, rfl⟩
    · go_enter Tryd.func4, Tryd.ntmps4
      go_wp2_with fail
      refine (rin_any _ _ _ _).mono ?_
      rintro e w' ⟨rfl, rfl⟩
      rw [HW.out]
      have hc : chk wide l = 4 := by unfold chk; rw [if_pos hw, if_pos (by omega)]
      have Hc := Lib.hid hc
      clear hc
      go_wp2_with fail
      go_ret
      exact ⟨by rw [Hc.out]; rfl, rfl⟩
  · have HW := Lib.hid (show decide (1 ≤ wide ∧ wide ≤ 30) = false from by simpa using hw)
    have hc : chk wide l = 1 := by unfold chk; rw [if_neg hw]
    have Hc := Lib.hid hc
    clear hc hw
    go_enter Tryd.func4, Tryd.ntmps4
    go_wp2_with fail
    refine (rin_any _ _ _ _).mono ?_
    rintro e w' ⟨rfl, rfl⟩
    rw [HW.out]
    go_wp2_with fail
    go_ret
    exact ⟨by rw [Hc.out]; rfl, rfl⟩

/-- The cost from i on. -/
def C (wide : Int) (l : List Int) (i : Nat) : Int := gi (tables wide l).1 i
theorem C_end {wide : Int} {l : List Int} (hw : ∀ x ∈ l, 1 ≤ x ∧ x ≤ wide) : C wide l l.length = 0 := (tables_rows hw).1
theorem C_row {wide : Int} {l : List Int} (hw : ∀ x ∈ l, 1 ≤ x ∧ x ≤ wide) (i : Nat) (hi : i < l.length) : Row wide l (tables wide l).1 (tables wide l).2 i := (tables_rows hw).2 i hi
theorem rm_le {wide : Int} {l : List Int} (hw : ∀ x ∈ l, 1 ≤ x ∧ x ≤ wide) (h30 : wide ≤ 30) (i k : Nat) (hk : 1 ≤ k) (h : i + k ≤ l.length) : rm wide l i k ≤ 30 :=
  left_le wide _ (fun x hx => by have := hw x (List.mem_of_mem_drop (List.mem_of_mem_take hx)); omega) (by simp; omega) h30
theorem sq_le {a : Int} (h0 : 0 ≤ a) (h : a ≤ 30) : a * a ≤ 900 := by
  have := Int.mul_le_mul h h h0 (by omega : (0:Int) ≤ 30); omega
theorem C_bd {wide : Int} {l : List Int} (hw : ∀ x ∈ l, 1 ≤ x ∧ x ≤ wide) (h30 : wide ≤ 30) : ∀ (m i : Nat), l.length ≤ i + m → i ≤ l.length → 0 ≤ C wide l i ∧ C wide l i ≤ 900 * ((l.length : Int) - i) := by
  intro m
  induction m with
  | zero =>
    intro i h1 h2
    obtain rfl : i = l.length := by omega
    rw [C_end hw]; omega
  | succ m ih =>
    intro i h1 h2
    by_cases hlt : i < l.length
    · refine ⟨C_nonneg hw l.length i (by omega) h2, ?_⟩
      obtain ⟨t, a1, a2, a3, a4, a5, a6, a7⟩ := C_row hw i hlt
      have h3 := a6 1 (by omega) (by omega) (rm_one hw i hlt)
      have h4 := (ih (i + 1) (by omega) (by omega)).2
      have h5 := sq_le (rm_one hw i hlt) (rm_le hw h30 i 1 (by omega) (by omega))
      unfold C at h4 ⊢
      unfold term at h3
      split at h3 <;> omega
    · obtain rfl : i = l.length := by omega
      rw [C_end hw]; omega

/-- What holds of the costs while row i is filled, all lines up to k looked at. -/
def Fill (wide : Int) (l : List Int) (i k : Nat) (c : List Int) : Prop :=
  c.length = l.length + 1 ∧ (∀ j, i < j → j ≤ l.length → gi c j = C wide l j) ∧
  ((gi c i = -1 ∧ ∀ k', i < k' → k' < k → rm wide l i (k' - i) < 0) ∨
   (0 ≤ gi c i ∧ (∃ k', i < k' ∧ k' < k ∧ k' ≤ l.length ∧ 0 ≤ rm wide l i (k' - i) ∧ gi c i = C wide l k' + term wide l i (k' - i)) ∧
     ∀ k', i < k' → k' < k → k' ≤ l.length → 0 ≤ rm wide l i (k' - i) → gi c i ≤ C wide l k' + term wide l i (k' - i)))
theorem Fill.skip {wide : Int} {l : List Int} {i k : Nat} {c : List Int} (h : Fill wide l i k c) (hr : rm wide l i (k - i) < 0) : Fill wide l i (k + 1) c := by
  obtain ⟨h1, h2, h3⟩ := h
  refine ⟨h1, h2, ?_⟩
  rcases h3 with ⟨a, b⟩ | ⟨a, ⟨k', b1, b2, b3, b4, b5⟩, d⟩
  · refine .inl ⟨a, fun k' c1 c2 => ?_⟩
    by_cases e : k' = k
    · rw [e]; exact hr
    · exact b k' c1 (by omega)
  · refine .inr ⟨a, ⟨k', b1, by omega, b3, b4, b5⟩, fun q c1 c2 c3 c4 => ?_⟩
    by_cases e : q = k
    · rw [e] at c4; omega
    · exact d q c1 (by omega) c3 c4
theorem Fill.put {wide : Int} {l : List Int} {i k : Nat} {c : List Int} {x : Int} (h : Fill wide l i k c) (hi : i < k) (hk : k ≤ l.length) (hr : 0 ≤ rm wide l i (k - i)) (hx : x = C wide l k + term wide l i (k - i)) (h0 : 0 ≤ x)
    (hc : gi c i < 0 ∨ x < gi c i) : Fill wide l i (k + 1) (c.set i x) := by
  obtain ⟨h1, h2, h3⟩ := h
  have hs : gi (c.set i x) i = x := gi_set_self (by omega)
  refine ⟨by simpa using h1, fun j c1 c2 => by rw [gi_set_ne (by omega)]; exact h2 j c1 c2, .inr ⟨by rw [hs]; exact h0, ⟨k, hi, by omega, hk, hr, by rw [hs]; exact hx⟩, fun q c1 c2 c3 c4 => ?_⟩⟩
  rw [hs]
  by_cases e : q = k
  · subst e; omega
  · rcases h3 with ⟨a, b⟩ | ⟨a, _, d⟩
    · have := b q c1 (by omega); omega
    · have := d q c1 (by omega) c3 c4; omega
theorem Fill.keep {wide : Int} {l : List Int} {i k : Nat} {c : List Int} {x : Int} (h : Fill wide l i k c) (hx : x = C wide l k + term wide l i (k - i)) (hc : ¬ (gi c i < 0 ∨ x < gi c i)) : Fill wide l i (k + 1) c := by
  obtain ⟨h1, h2, h3⟩ := h
  refine ⟨h1, h2, ?_⟩
  rcases h3 with ⟨a, b⟩ | ⟨a, ⟨k', b1, b2, b3, b4, b5⟩, d⟩
  · exact absurd (.inl (by omega)) hc
  · refine .inr ⟨a, ⟨k', b1, by omega, b3, b4, b5⟩, fun q c1 c2 c3 c4 => ?_⟩
    by_cases e : q = k
    · subst e; omega
    · exact d q c1 (by omega) c3 c4
theorem Fill.done {wide : Int} {l : List Int} (hw : ∀ x ∈ l, 1 ≤ x ∧ x ≤ wide) {i : Nat} {c : List Int} (hi : i < l.length) (h : Fill wide l i (l.length + 1) c) : gi c i = C wide l i := by
  obtain ⟨h1, h2, h3⟩ := h
  obtain ⟨t, a1, a2, a3, a4, a5, a6, a7⟩ := C_row hw i hi
  rcases h3 with ⟨a, b⟩ | ⟨a, ⟨k', b1, b2, b3, b4, b5⟩, d⟩
  · have := b (i + t) (by omega) (by omega)
    rw [show i + t - i = t from by omega] at this
    omega
  · have e1 := d (i + t) (by omega) (by omega) a3 (by rw [show i + t - i = t from by omega]; exact a4)
    rw [show i + t - i = t from by omega] at e1
    have e2 := a6 (k' - i) (by omega) (by omega) b4
    rw [show i + (k' - i) = k' from by omega] at e2
    unfold C at *
    omega
def CostRel (wide : Int) (l : List Int) (w : World) (g : Nat) (wr : World) (i : Nat) (c : List Int) : Prop :=
  Below w.heap.size w wr ∧ Blk wr g 3 (c.map (Value.int .i64)) ∧ w.heap.size ≤ g ∧ c.length = l.length + 1 ∧ ∀ j, i ≤ j → j ≤ l.length → gi c j = C wide l j
def FillRel (wide : Int) (l : List Int) (w : World) (g : Nat) (wr : World) (i k : Nat) (c : List Int) : Prop :=
  Below w.heap.size w wr ∧ Blk wr g 3 (c.map (Value.int .i64)) ∧ w.heap.size ≤ g ∧ Fill wide l i k c
theorem FillRel.set {wide : Int} {l : List Int} {w : World} {g : Nat} {wr : World} {i k k' : Nat} {c : List Int} {x : Int} (h : FillRel wide l w g wr i k c) (hf : Fill wide l i k' (c.set i x)) :
    FillRel wide l w g (wr.setCell ⟨g, i, none⟩ (.int .i64 x)) i k' (c.set i x) := by
  obtain ⟨a, b, d, _⟩ := h
  refine ⟨a.setCell (p := ⟨g, i, none⟩) d _, ?_, d, hf⟩
  have := b.set_ i (.int .i64 x)
  rwa [← List.map_set] at this

set_option maxRecDepth 100000 in
set_option maxHeartbeats 2000000 in
theorem rcosts_any (wide : Int) (A : Option Addr) (n c : Nat) (l : List Int) (w : World) (hA : Ints w w.heap.size A n l) (hw0 : 0 ≤ wide) (hw1 : wide ≤ 30) (hn : n ≤ 20) (hnc : n ≤ c)
    (hl : ∀ x ∈ l, 1 ≤ x ∧ x ≤ wide) :
    Calls Tryd.prog 8 #[.int .i64 wide, .slice A n c] w fun e w' => ∃ g cs, e = .returned (.slice (some ⟨g, 0, none⟩) (n + 1) (n + 1)) ∧ CostRel wide l w g w' 0 cs := by
  obtain ⟨i0, hi0, hz0, hz1, hz2⟩ := info_parts info_int
  have hmk := fun W => mk_ints (P := Tryd.prog) Tryd.underlying22 hi0 hz0 hz1 rfl (by omega) (n + 1) (by omega) W
  simp only [Int.natCast_add, Int.natCast_one] at hmk
  have hln := hA.1
  have HL := Lib.hid hl; clear hl
  go_enter Tryd.func8, Tryd.ntmps8
  go_wp2_with fail
  have hR0 : CostRel wide l w w.heap.size (w.alloc (.cells (Array.replicate (n + 1) (Value.int .i64 0)) 3)) n (List.replicate (n + 1) 0) := by
    refine ⟨(Below.refl _ _).alloc (Nat.le_refl _) _, ?_, Nat.le_refl _, by simp [hln], fun j h1 h2 => ?_⟩
    · have e : (Array.replicate (n + 1) (Value.int .i64 0)) = ((List.replicate (n+1) (0:Int)).map (Value.int .i64)).toArray := by simp
      rw [e]; exact Blk.new w _ _
    · obtain rfl : j = l.length := by omega
      rw [gi_replicate, C_end HL.out]
  clear hmk
  go_loopg [7] n (fun i iv wr => ∃ cs, i ≤ n ∧ iv = .int .i64 ((i : Int) - 1) ∧ CostRel wide l w w.heap.size wr i cs)
  case atStart => exact ⟨_, Nat.le_refl _, rfl, hR0⟩
  case round =>
    obtain ⟨cs, hi, hiv, hR⟩ := hrel
    cases gk with
    | zero =>
      subst hiv
      go_wp2_with fail
      go_ret
      exact ⟨_, cs, rfl, hR⟩
    | succ i =>
      rw [show (((i + 1 : Nat) : Int) - 1) = (i : Int) from by omega] at hiv
      subst hiv
      obtain ⟨r1, r2, r3, r4, r5⟩ := hR
      have hf1 := r2.frozen i
      have hc1 := blk_ints r2 (j := i) (by omega)
      have hF0 : FillRel wide l w w.heap.size (wr.setCell ⟨w.heap.size, i, none⟩ (.int .i64 (-1))) i (i + 1) (cs.set i (-1)) := by
        refine ⟨r1.setCell (p := ⟨w.heap.size, i, none⟩) r3 _, ?_, r3, by simpa using r4, fun j h1 h2 => by rw [gi_set_ne (by omega)]; exact r5 j (by omega) h2, .inl ⟨gi_set_self (by omega), fun k' h1 h2 => by omega⟩⟩
        have := r2.set_ i (.int .i64 (-1))
        rwa [← List.map_set] at this
      have HF0 := Lib.hid hF0
      clear r1 r2 r3 r4 r5 hF0
      go_wp2_with fail
      go_loopg [8] (n - i) (fun f kv wr => ∃ cs, ∃ k : Nat, k + f = n + 1 ∧ i < k ∧ kv = .int .i64 k ∧ FillRel wide l w w.heap.size wr i k cs)
      case atStart => exact ⟨_, i + 1, by omega, by omega, rfl, HF0.out⟩
      case round =>
        obtain ⟨cs, k, hkf, hik, rfl, hR⟩ := hrel
        have HR := Lib.hid hR; clear hR
        by_cases hk : k ≤ n
        · obtain ⟨f, rfl⟩ : ∃ f, gk = f + 1 := ⟨gk - 1, by omega⟩
          have hcut : Ints wr w.heap.size (Option.map (fun x => x.add i) A) (k - i) ((l.drop i).take (k - i)) :=
            (hA.below HR.out.1).cut (i := i) (j := k) (by omega) hk (A' := A.map (·.add i)) (fun _ => rfl)
          have hlk : ∀ x ∈ (l.drop i).take (k - i), 0 ≤ x ∧ x ≤ 30 := fun x hx => (fun h => ⟨by omega, by omega⟩ : 1 ≤ x ∧ x ≤ wide → 0 ≤ x ∧ x ≤ 30) (HL.out x (List.mem_of_mem_drop (List.mem_of_mem_take hx)))
          go_wp2_with fail
          refine (room_any wide _ _ _ _ wr _ hcut hw0 hw1 (by omega) hlk).mono ?_
          rintro e w' ⟨rfl, rfl⟩
          have hroom1 : left wide ((l.drop i).take (k - i)) ≤ 30 := left_le wide _ hlk (by simp; omega) hw1
          clear hcut hlk
          generalize hroom : left wide ((l.drop i).take (k - i)) = room at *
          have HRoom := Lib.hid hroom; clear hroom
          by_cases hr : room < 0
          · go_wp2_with fail
            go_roundg f
            case measure => omega
            case rel =>
              obtain ⟨a, b, d, e⟩ := HR.out
              exact ⟨cs, k + 1, by omega, by omega, by simp, a, b, d, e.skip (by show left _ _ < 0; rw [HRoom.out]; exact hr)⟩
          · have hmul : 0 ≤ room * room ∧ room * room ≤ 900 := ⟨sq_nonneg _, sq_le (by omega) hroom1⟩
            have hcl := HR.out.2.2.2.1
            have hc1 := blk_ints HR.out.2.1 (j := k) (by omega)
            have hc2 := blk_ints HR.out.2.1 (j := i) (by omega)
            have hf1 := HR.out.2.1.frozen i
            have hck := HR.out.2.2.2.2.1 k hik (by omega)
            rw [hck] at hc1
            have hb := C_bd HL.out hw1 l.length k (by omega) (by omega)
            rw [hln] at hb
            have hterm : term wide l i (k - i) = if k < n then room * room else 0 := by
              unfold term
              rw [show i + (k - i) = k from by omega, hln]
              unfold rm; rw [HRoom.out]
            have HTm := Lib.hid hterm
            have HRm : Hid (rm wide l i (k - i) = room) := HRoom.out
            clear hck hterm hcl
            by_cases hlt : k < n
            · by_cases hneg : gi cs i < 0
              · go_wp2_with fail
                go_roundg f
                case measure => omega
                case rel => exact ⟨_, k + 1, by omega, by omega, by simp, HR.out.set (HR.out.2.2.2.put hik (by omega) (by rw [HRm.out]; omega) (by rw [HTm.out, if_pos hlt]) (by omega) (.inl hneg))⟩
              · by_cases hle : C wide l k + room * room < gi cs i
                · have hneg' : decide (gi cs i < 0) = false := by simpa using hneg
                  go_wp2_with fail
                  go_roundg f
                  case measure => omega
                  case rel => exact ⟨_, k + 1, by omega, by omega, by simp, HR.out.set (HR.out.2.2.2.put hik (by omega) (by rw [HRm.out]; omega) (by rw [HTm.out, if_pos hlt]) (by omega) (.inr hle))⟩
                · have hneg' : decide (gi cs i < 0) = false := by simpa using hneg
                  go_wp2_with fail
                  go_roundg f
                  case measure => omega
                  case rel =>
                    obtain ⟨a, b, d, e⟩ := HR.out
                    exact ⟨cs, k + 1, by omega, by omega, by simp, a, b, d, e.keep (x := C wide l k + room * room) (by rw [HTm.out, if_pos hlt]) (by omega)⟩
            · by_cases hneg : gi cs i < 0
              · go_wp2_with fail
                go_roundg f
                case measure => omega
                case rel => exact ⟨_, k + 1, by omega, by omega, by simp, HR.out.set (HR.out.2.2.2.put hik (by omega) (by rw [HRm.out]; omega) (by rw [HTm.out, if_neg hlt]; omega) (by omega) (.inl hneg))⟩
              · by_cases hle : C wide l k < gi cs i
                · have hneg' : decide (gi cs i < 0) = false := by simpa using hneg
                  go_wp2_with fail
                  go_roundg f
                  case measure => omega
                  case rel => exact ⟨_, k + 1, by omega, by omega, by simp, HR.out.set (HR.out.2.2.2.put hik (by omega) (by rw [HRm.out]; omega) (by rw [HTm.out, if_neg hlt]; omega) (by omega) (.inr hle))⟩
                · have hneg' : decide (gi cs i < 0) = false := by simpa using hneg
                  go_wp2_with fail
                  go_roundg f
                  case measure => omega
                  case rel =>
                    obtain ⟨a, b, d, e⟩ := HR.out
                    exact ⟨cs, k + 1, by omega, by omega, by simp, a, b, d, e.keep (x := C wide l k) (by rw [HTm.out, if_neg hlt]; omega) (by omega)⟩
        · go_wp2_with fail
          go_roundg i
          case measure => omega
          case rel =>
            obtain ⟨a, b, d, e⟩ := HR.out
            have e' : Fill wide l i (l.length + 1) cs := by rw [show l.length + 1 = k from by omega]; exact e
            refine ⟨cs, by omega, rfl, a, b, d, e.1, fun j h1 h2 => ?_⟩
            by_cases hj : j = i
            · rw [hj]; exact e'.done HL.out (by omega)
            · exact e.2.1 j (by omega) h2
end Go.Proofs.YtikkcjclhalhgaaDoor
