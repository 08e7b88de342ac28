/- The walks over the document's answers for the word and for what stands twice. -/
import Derived.Test.YtaoppfcniifjhaaDoorMorseQ
import Derived.Test.YtaoppfcniifjhaaDoorMorseT0
import Derived.Laws.IdiomStrings
import Derived.Lib.BufferRead
namespace Go.Proofs.YtaoppfcniifjhaaDoor
open Go.RowKit MorseM IntWalk
attribute [local go_sem] byte_at str_app

set_option maxRecDepth 100000 in
set_option maxHeartbeats 400000 in
theorem odd_any (f : Nat) : ∀ (n : Nat) (w : World), n < 2 ^ f → n ≤ 1000 →
    Calls Tryd.prog 11 #[.int .i64 (n : Int)] w fun e w' => e = .returned (.bool (oddR f n)) ∧ w = w' := by
  induction f with
  | zero =>
    intro n w h _
    obtain rfl : n = 0 := by simpa using h
    go_enter Tryd.func11, Tryd.ntmps11
    go_wp2_with fail
    go_ret
    exact ⟨rfl, rfl⟩
  | succ f ih =>
    intro n w h hb
    by_cases h0 : n = 0
    · subst h0
      have HO := Lib.hid (oddR_zero (f + 1))
      go_enter Tryd.func11, Tryd.ntmps11
      go_wp2_with fail
      go_ret
      exact ⟨by rw [HO.out]; rfl, rfl⟩
    · have hlt : n / 2 < 2 ^ f := by rw [Nat.pow_succ] at h; omega
      have HI := Lib.hid (fun w => ih (n / 2) w hlt (by omega))
      have HO := Lib.hid (show oddR (f + 1) n = (oddR f (n / 2) != (n % 2 == 1)) by simp [oddR, h0])
      have e0 : ((n : Int) == 0) = false := by simp; omega
      clear ih hlt h
      obtain ⟨m, hm⟩ : ∃ m : Nat, n / 2 = m := ⟨_, rfl⟩
      have hm' : (n : Int) / 2 = (m : Int) := by omega
      rw [hm] at HI HO
      rcases Nat.mod_two_eq_zero_or_one n with h2 | h2
      all_goals
        have e1 : (n : Int) % 2 = ((n % 2 : Nat) : Int) := by omega
        rw [h2] at e1
        have HO2 : Hid (oddR (f + 1) n = (oddR f m != (_ == 1))) := Lib.hid (by have := HO.out; rw [h2] at this; exact this)
        clear HO hm
        go_enter Tryd.func11, Tryd.ntmps11
        go_wp2_with fail
        refine (HI.out w).mono ?_
        rintro e w' ⟨rfl, rfl⟩
        cases hv : oddR f m
        all_goals
          go_wp2_with fail
          go_ret
          exact ⟨by rw [HO2.out, hv]; rfl, rfl⟩

theorem info_byte' : (Tryd.prog.info? 5).map (fun i => (i.zero, i.size, i.bytes)) = some (some (.int .u8 0), 1, 1) := by kernel_rfl
def bcells (l : List UInt8) : List Value := l.map fun c => Value.int .u8 (c.toNat : Int)
theorem bcells_len (l : List UInt8) : (bcells l).length = l.length := by simp [bcells]
theorem bcells_app (l : List UInt8) (c : UInt8) : bcells (l ++ [c]) = bcells l ++ [.int .u8 (c.toNat : Int)] := by simp [bcells]
/-- string(b) of a row of bytes that the call owns. -/
theorem str_of_own {w : World} {base n : Nat} {v : Value} {l : List UInt8} (h : w.ownsRow base 5 1 v n (bcells l)) :
    (convert 34 9 v).run Tryd.prog w = .ok (S l) w := by
  have hn : l.length = n := by rw [← bcells_len]; have := h.1; rwa [Nat.mul_one] at this
  rcases h.2 with ⟨rfl, h0⟩ | ⟨g, cap, cur, rfl, _, hg, _⟩
  · obtain rfl : l = [] := List.length_eq_zero_iff.1 (by omega)
    exact Lib.run_convert_nil_bytes w _ _ 5 0 Tryd.underlying34 Tryd.underlying5 Tryd.underlying9
  · subst hn
    exact run_convert_bytes_back w _ _ 5 ⟨g, 0, none⟩ cap l Tryd.underlying34 Tryd.underlying5 Tryd.underlying9 (fun j hj => by
      have := h.cells (g := g) rfl j (.int .u8 (l[j].toNat : Int)) (by simp [bcells, List.getElem?_eq_getElem hj])
      exact this)

set_option maxRecDepth 100000 in
set_option maxHeartbeats 1000000 in
theorem morse_any (n : Nat) (w : World) (h : n ≤ 200) :
    Calls Tryd.prog 5 #[.int .i64 (n : Int)] w fun e w' => e = .returned (S (word n)) ∧ Below w.heap.size w w' := by
  obtain ⟨i0, hi, hz0, hz1, hz2⟩ := info_parts info_byte'
  go_enter Tryd.func5, Tryd.ntmps5
  go_wp2_with fail
  go_loopg [3, 4] n (fun f v kv wr => ∃ k : Nat, k + f = n ∧ kv = .int .i64 k ∧ wr.ownsRow w.heap.size 5 1 v (bcells (word k)).length (bcells (word k)) ∧ Below w.heap.size w wr)
  case atStart => exact ⟨0, by omega, rfl, World.ownsRow_nil _ _ _ _, Below.refl _ _⟩
  case round =>
    obtain ⟨k, hkf, rfl, hown, hB⟩ := hrel
    have HOWN := Lib.hid hown
    obtain ⟨A1, c1, rfl, hc1⟩ := own_shape hown
    clear hown
    have HB := Lib.hid hB; clear hB
    by_cases hlt : k < n
    · obtain ⟨f, rfl⟩ : ∃ f, gk = f + 1 := ⟨gk - 1, by omega⟩
      have hso := sign_odd k (by omega)
      have hwl := word_len k
      have HWL := Lib.hid hwl; clear hwl
      have HWS := Lib.hid (show bcells (word (k + 1)) = bcells (word k) ++ [.int .u8 ((sign k).toNat : Int)] by rw [word_succ, bcells_app])
      have HZ := HB.out.size
      have hbl : (bcells (word k)).length = k := by rw [bcells_len, HWL.out]
      have HBL := Lib.hid hbl; clear hbl
      cases ho : oddR 8 k
      · have HSO : Hid (sign k = 48) := Lib.hid (by rw [ho] at hso; exact hso)
        have HOD : Hid (∀ w, Calls Tryd.prog 11 #[.int .i64 (k : Int)] w fun e w' => e = .returned (.bool false) ∧ w = w') := Lib.hid (fun w => by have := odd_any 8 k w (by omega) (by omega); rw [ho] at this; exact this)
        clear hso ho
        go_wp2_with fail
        refine (HOD.out wr).mono ?_
        rintro e w' ⟨rfl, rfl⟩
        go_wp2_with (at_builtin; refine wpList_append1 rfl (.tmp 15) (.tmp 16) _ rfl 5 i0 _ Tryd.underlying34 hi hz0 hz1 (by omega) rfl w.heap.size _ _ (.int .u8 48) rfl rfl rfl HOWN.out (by rw [HBL.out]; omega) HZ ?_; intro v' w' hown' hB')
        have hown2 : w'.ownsRow w.heap.size 5 1 v' (bcells (word (k + 1))).length (bcells (word (k + 1))) := by rw [HWS.out, HSO.out]; exact hown'
        have HO2 := Lib.hid hown2; clear hown2 hown'
        have HB2 := Lib.hid (HB.out.trans hB'); clear hB'
        go_roundg f
        case measure => omega
        case rel => exact ⟨k + 1, by omega, by simp, HO2.out, HB2.out⟩
      · have HSO : Hid (sign k = 49) := Lib.hid (by rw [ho] at hso; exact hso)
        have HOD : Hid (∀ w, Calls Tryd.prog 11 #[.int .i64 (k : Int)] w fun e w' => e = .returned (.bool true) ∧ w = w') := Lib.hid (fun w => by have := odd_any 8 k w (by omega) (by omega); rw [ho] at this; exact this)
        clear hso ho
        go_wp2_with fail
        refine (HOD.out wr).mono ?_
        rintro e w' ⟨rfl, rfl⟩
        go_wp2_with (at_builtin; refine wpList_append1 rfl (.tmp 12) (.tmp 13) _ rfl 5 i0 _ Tryd.underlying34 hi hz0 hz1 (by omega) rfl w.heap.size _ _ (.int .u8 49) rfl rfl rfl HOWN.out (by rw [HBL.out]; omega) HZ ?_; intro v' w' hown' hB')
        have hown2 : w'.ownsRow w.heap.size 5 1 v' (bcells (word (k + 1))).length (bcells (word (k + 1))) := by rw [HWS.out, HSO.out]; exact hown'
        have HO2 := Lib.hid hown2; clear hown2 hown'
        have HB2 := Lib.hid (HB.out.trans hB'); clear hB'
        go_roundg f
        case measure => omega
        case rel => exact ⟨k + 1, by omega, by simp, HO2.out, HB2.out⟩
    · obtain rfl : k = n := by omega
      have hstr := str_of_own HOWN.out
      go_wp2_with fail
      go_ret
      exact ⟨rfl, HB.out⟩
end Go.Proofs.YtaoppfcniifjhaaDoor
