/- The plain laws of the document's answer for names, its Rules and its place. -/
import Derived.Test.YtlbiklhndcamhaaDoorGramK
namespace Go.Proofs.YtlbiklhndcamhaaDoor
open Go.RowKit GramM IntWalk
attribute [local go_sem] byte_at str_app

/-- Does a rule make so long a part, by shorter ones? -/
def condR (L : List Ru) (s : List UInt8) (i k : Nat) (r : Ru) : Bool := (r.is.length == 1 && r.is == cut s i (k + 1)) ||
  (r.is.length == 2 && (List.range k).any fun m => der L (bu r.is 0).toNat (cut s i (m + 1)) && der L (bu r.is 1).toNat (cut s (i + m + 1) (k - m)))
theorem der_cond {L : List Ru} {s : List UInt8} {i k c : Nat} (h : i + k < s.length) : der L c (cut s i (k + 1)) = L.any fun r => r.nm.toNat == c && condR L s i k r := by
  rw [der_eq, cut_len (by omega)]
  refine any_congr fun r _ => ?_
  congr 1
  unfold condR
  congr 2
  rw [Bool.eq_iff_iff, List.any_eq_true, List.any_eq_true]
  constructor
  · rintro ⟨m, hm, h1⟩
    rw [List.mem_range] at hm
    simp only [Bool.and_eq_true, decide_eq_true_eq] at h1
    obtain ⟨m, rfl⟩ : ∃ q, m = q + 1 := ⟨m - 1, by omega⟩
    refine ⟨m, List.mem_range.2 (by omega), ?_⟩
    rw [cut_take s (by omega), cut_drop] at h1
    rw [Bool.and_eq_true]
    refine ⟨h1.2.1, ?_⟩
    have := h1.2.2
    rwa [show i + (m + 1) = i + m + 1 by omega, show k + 1 - (m + 1) = k - m by omega] at this
  · rintro ⟨m, hm, h1⟩
    rw [List.mem_range] at hm
    refine ⟨m + 1, List.mem_range.2 (by omega), ?_⟩
    rw [cut_take s (by omega), cut_drop, show i + (m + 1) = i + m + 1 by omega, show k + 1 - (m + 1) = k - m by omega]
    rw [Bool.and_eq_true] at h1
    simp [h1.1, h1.2]

set_option maxHeartbeats 400000 in
theorem place_any (t : List UInt8) (c : UInt8) (w : World) (ht : t.length ≤ 1000) :
    Calls Tryd.prog 15 #[S t, .int .u8 (c.toNat : Int)] w fun e w' => (∃ z : Int, e = .returned (.int .i64 z) ∧ decide (0 ≤ z) = hasB t c) ∧ w' = w := by
  go_enter Tryd.func15, Tryd.ntmps15
  go_wp2_with fail
  go_loopg [5] t.length (fun f iv wr => ∃ i : Nat, i + f = t.length ∧ iv = .int .i64 (i : Int) ∧ hasB (t.take i) c = false ∧ wr = w)
  case atStart => exact ⟨0, by omega, rfl, rfl, rfl⟩
  case round =>
    obtain ⟨i, hif, rfl, hno, rfl⟩ := hrel
    by_cases hi : i < t.length
    · obtain ⟨f, rfl⟩ : ∃ f, gk = f + 1 := ⟨gk - 1, by omega⟩
      have hst := hasB_take hi c
      rw [hno, Bool.false_or] at hst
      by_cases he : bu t i = c
      · have hall : hasB t c = true := by
          unfold hasB
          rw [List.any_eq_true]
          exact ⟨bu t i, bu_mem hi, by simp [he]⟩
        have HA := Lib.hid hall
        obtain ⟨q1, q2, q3, q4⟩ := bu8_eq _ _ he
        clear hst hno hall he
        go_wp2_with fail
        go_ret
        exact ⟨⟨(i : Int), rfl, by rw [HA.out]; exact decide_eq_true (by omega)⟩, rfl⟩
      · obtain ⟨q1, q2, q3, q4⟩ := bu8_ne _ _ he
        have HS := Lib.hid (show hasB (t.take (i + 1)) c = false by rw [hst]; simpa using he)
        clear hst hno he
        go_wp2_with fail
        go_roundg f
        case measure => omega
        case rel => exact ⟨i + 1, by omega, by simp, HS.out, rfl⟩
    · obtain rfl : i = t.length := by omega
      rw [List.take_length] at hno
      have HA := Lib.hid hno; clear hno
      go_wp2_with fail
      go_ret
      exact ⟨⟨-1, rfl, by rw [HA.out]; rfl⟩, rfl⟩
end Go.Proofs.YtlbiklhndcamhaaDoor
