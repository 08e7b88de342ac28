/- The document's answer to any line, its Session; the law DeskAnswers. Condition: as of desk.Run. -/
import Derived.Test.YteoofkinmilckaaGreatDoorDeskAb
import Derived.Test.YteoofkinmilckaaGreatDoorDeskAd
import Derived.Test.YteoofkinmilckaaGreatDoorDeskAo
import Derived.Test.YteoofkinmilckaaGreatDoorDeskR
import Derived.Test.YteoofkinmilckaaGreatDoorDeskP
namespace Go.Proofs.YteoofkinmilckaaGreatDoor
open Go.RowKit Go.Shelf IntWalk
attribute [local go_sem] byte_at str_app
attribute [local go_sem ↓] Go.wp_at_zero Go.wp_at_succ

theorem ansW_oth (s : BS) {a : List UInt8} (r : List (List UInt8)) (h0 : a ≠ [112, 117, 116]) (h1 : a ≠ [99, 117, 116]) (h2 : a ≠ [110, 111, 119]) (h3 : a ≠ [102, 105, 110, 100]) (h4 : a ≠ [99, 114, 97, 115, 104]) : ansW s (a :: r) = (s, badM) := by
  simp [ansW, h0, h1, h2, h3, h4]
theorem answerR_any (s : BS) (l : List UInt8) (w : World) (hs : Smalls s) (hl : l.length ≤ 3000) :
    Calls Tryz.prog 35 #[BV s, S l] w fun e w' => e = .returned (.tuple #[BV (answerD s l).1, S (answerD s l).2]) ∧ Below w.heap.size w w' := by
  rw [answerD_cut]
  have hx : ∀ x ∈ cutB 32 l, x.length ≤ 3000 := fun x h => Nat.le_trans (cutB_len _ _ _ h) hl
  cases hws : cutB 32 l with
  | nil => exact absurd hws (cutB_ne _ _)
  | cons a r =>
    by_cases hn : a = [110, 111, 119]
    · subst hn
      by_cases hr : r.length = 0
      · obtain rfl := List.length_eq_zero_iff.1 hr
        exact ansR_now s l w hs hl hws
      · rw [ansW_now_len s r hr]
        exact ansR_no_now s l _ r (s, badM) w hs hl hws hx (Lib.hid fun _ _ _ => rfl) rfl hr (Lib.hid rfl)
    by_cases hf : a = [102, 105, 110, 100]
    · subst hf
      by_cases hr : r.length = 1
      · obtain ⟨x, rfl⟩ := one_of hr
        exact ansR_find s l x w hs hl hws hx
      · rw [ansW_find_len s r hr]
        exact ansR_no_find s l _ r (s, badM) w hs hl hws hx (Lib.hid fun _ _ _ => rfl) rfl hr (Lib.hid rfl)
    by_cases hp : a = [112, 117, 116]
    · subst hp
      by_cases hr : r.length = 2
      · obtain ⟨x, y, rfl⟩ := two_of hr
        exact ansR_put s l x y w hs hl hws hx
      · rw [ansW_put_len s r hr]
        exact ansR_no_put s l _ r (s, badM) w hs hl hws hx (Lib.hid fun _ _ _ => rfl) rfl hr (Lib.hid rfl)
    refine ansR_oth s l a r (ansW s (a :: r)) w hs hl hws hx (Lib.hid fun i hi hno => ?_) (by simpa using hn) (by simpa using hf) (by simpa using hp) (Lib.hid fun hc n k h2 e0 e1 => ?_) (Lib.hid fun hc n h1 e0 => ?_) (Lib.hid fun n1 n2 => ?_)
    · by_cases hc : a = [99, 117, 116]
      · subst hc
        by_cases hr : r.length = 2
        · obtain ⟨x, y, rfl⟩ := two_of hr
          rw [ansW_cut]
          have hi' : i = 0 ∨ i = 1 := by simp at hi; omega
          rcases hi' with rfl | rfl
          · rw [show numD x = none from hno]
          · have : numD y = none := hno
            cases numD x with
            | none => rfl
            | some n => simp only [this]
        · exact ansW_cut_len s r hr
      by_cases hk : a = [99, 114, 97, 115, 104]
      · subst hk
        by_cases hr : r.length = 1
        · obtain ⟨x, rfl⟩ := one_of hr
          rw [ansW_crash]
          have hi' : i = 0 := by simp at hi; omega
          subst hi'
          rw [show numD x = none from hno]
        · exact ansW_crash_len s r hr
      exact ansW_oth s r hp hc hn hf hk
    · subst hc
      obtain ⟨x, y, rfl⟩ := two_of h2
      rw [ansW_cut, show numD x = some n from e0, show numD y = some k from e1]
    · subst hc
      obtain ⟨x, rfl⟩ := one_of h1
      rw [ansW_crash, show numD x = some n from e0]
    · by_cases hc : a = [99, 117, 116]
      · subst hc
        exact ansW_cut_len s r (fun h => n1 ⟨rfl, h⟩)
      by_cases hk : a = [99, 114, 97, 115, 104]
      · subst hk
        exact ansW_crash_len s r (fun h => n2 ⟨rfl, h⟩)
      exact ansW_oth s r hp hc hn hf hk
end Go.Proofs.YteoofkinmilckaaGreatDoor
