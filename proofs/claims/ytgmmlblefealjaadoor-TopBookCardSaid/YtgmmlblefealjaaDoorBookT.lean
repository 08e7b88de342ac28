/- Two books in one memory: an operation on one leaves the other as it was. Condition: as of the operations. -/
import Derived.Test.YtgmmlblefealjaaDoorBookJ
import Derived.Test.YtgmmlblefealjaaDoorBookE
namespace Go.Proofs.YtgmmlblefealjaaDoor
open Go.RowKit IntWalk

/-- All that the book in block bo lies in is foreign. -/
def Foot (F : Nat → Option Obj) (Bo bo : Nat) (so : BS) (W : World) : Prop :=
  ∃ p v, (p = .pointer none ∨ p = .pointer (some ⟨bo, 1, none⟩)) ∧ Bo ≤ bo ∧ F bo = some (.cells #[S so.now, p, v, .int .i64 (so.many : Int)] 55 (0, 0)) ∧ W.ownsRowF Bo 5 1 v (Lib.byteCells so.txt).length (Lib.byteCells so.txt) ∧ v.ownBlock ≠ some bo ∧ ∀ k, v.ownBlock = some k → ∃ o, F k = some o
def Two (B b : Nat) (s : BS) (Bo bo : Nat) (so : BS) (W : World) : Prop := ∃ F, Bks F B b s W ∧ Foot F Bo bo so W
section
variable {B b Bo bo : Nat} {s so : BS} {W : World}
theorem Two.op (h : Two B b s Bo bo so W) : ∃ F, Bks F B b s W ∧ ∀ (W' : World) (s' : BS), Bks F B b s' W' → Two B b s' Bo bo so W' := by
  obtain ⟨F, h1, p, v, hp, hB, hF, hown, hne, hfo⟩ := h
  refine ⟨F, h1, fun W' s' h' => ⟨F, h', p, v, hp, hB, hF, ownF_stay hown fun y hy => ?_, hne, hfo⟩⟩
  obtain ⟨o, ho⟩ := hfo y hy
  exact (h'.frame ho).trans (h1.frame ho).symm
theorem Two.swap (h : Two B b s Bo bo so W) : Two Bo bo so B b s W := by
  obtain ⟨F, ⟨p, hp, hB, v, hbk, hown, hne, hF⟩, po, vo, hpo, hBo, hFo, howno, hneo, hfo⟩ := h
  obtain ⟨hbo, hbo1, hbo2⟩ := hF bo _ hFo
  refine ⟨fun k => if k = b ∨ v.ownBlock = some k then W.heap[k]? else none, ⟨po, hpo, hBo, vo, hbo, howno, hneo, fun k o hk => ?_⟩, p, v, hp, hB, ?_, hown, hne, fun k hk => ?_⟩
  · try simp only [] at hk
    by_cases hc : k = b ∨ v.ownBlock = some k
    · rw [if_pos hc] at hk
      refine ⟨hk, fun e => ?_, fun e => ?_⟩
      · subst e
        rcases hc with hc | hc
        · exact hbo1 hc
        · exact hbo2 hc
      · obtain ⟨o', ho'⟩ := hfo k e
        obtain ⟨_, q1, q2⟩ := hF k o' ho'
        rcases hc with hc | hc
        · exact q1 hc
        · exact q2 hc
    · rw [if_neg hc] at hk; cases hk
  · simp only [true_or, if_true]; exact hbk
  · have := (hown.lt k hk).2
    exact ⟨W.heap[k], by simp only [hk, or_true, if_true]; exact Array.getElem?_eq_getElem this⟩
theorem Two.make {w0 : World} (h : Bks nF B b s w0) (hb : Below w0.heap.size w0 W) (ho : Bks nF w0.heap.size bo so W) : Two B b s w0.heap.size bo so W := by
  refine ⟨fun k => if w0.heap.size ≤ k then W.heap[k]? else none, h.refence (Nat.le_refl _) (fun k o _ _ hk _ => (hb.block k (Array.getElem?_eq_some_iff.1 hk).1).trans hk) fun k o hk => ?_, ?_⟩
  · try simp only [] at hk
    by_cases hc : w0.heap.size ≤ k
    · rw [if_pos hc] at hk; exact ⟨hk, .inr (.inl hc)⟩
    · rw [if_neg hc] at hk; cases hk
  · obtain ⟨p, hp, hB, v, hbk, hown, hne, _⟩ := ho
    refine ⟨p, v, hp, hB, by simp only [hB, if_true]; exact hbk, hown, hne, fun k hk => ?_⟩
    obtain ⟨k1, k2⟩ := hown.lt k hk
    exact ⟨W.heap[k], by simp only [k1, if_true]; exact Array.getElem?_eq_getElem k2⟩
theorem Two.drew (h : Two B b s Bo bo so W) : Two B b s Bo bo so W.drew := by
  obtain ⟨F, h1, h2⟩ := h.op
  exact h2 _ _ (h1.below (Below.drew (Below.refl _ W)))
theorem Two.text (h : Two B b s Bo bo so W) (hB : B ≤ W.heap.size) :
    Calls Tryd.prog 15 #[.pointer (some ⟨b, 0, none⟩)] W fun e w' => e = .returned (S s.txt) ∧ Two B b s Bo bo so w' ∧ Below B W w' := by
  obtain ⟨F, h1, h2⟩ := h.op
  refine (text_all F B b s.now s.txt s.many W h1 hB).mono ?_
  rintro e w' ⟨rfl, hk, hb⟩
  exact ⟨rfl, h2 w' s hk, hb⟩
theorem Two.now (h : Two B b s Bo bo so W) :
    Calls Tryd.prog 13 #[.pointer (some ⟨b, 0, none⟩)] W fun e w' => e = .returned (S s.now) ∧ W = w' := by
  obtain ⟨F, h1, _⟩ := h
  exact now_any F B b s.now s.txt s.many W h1
theorem Two.put (h : Two B b s Bo bo so W) (x : List UInt8) (at_ : Int) (ht : TG W) (hs : Smalls s) (hx : x.length ≤ 9223372036854775807) (hB : B ≤ W.heap.size) (hB0 : 1 < B) :
    Calls Tryd.prog 10 #[.pointer (some ⟨b, 0, none⟩), .int .i64 at_, S x] W fun e w' => e = .returned (errV (putS s at_ x).1) ∧ Two B b (putS s at_ x).2 Bo bo so w' ∧ Below B W w' := by
  obtain ⟨F, h1, h2⟩ := h.op
  refine (put_s F B b s x at_ W h1 ht hs hx hB hB0).mono ?_
  rintro e w' ⟨rfl, hb, hk⟩
  exact ⟨rfl, h2 w' _ hk, hb⟩
theorem Two.text2 (h : Two B b s Bo bo so W) (hB : Bo ≤ W.heap.size) :
    Calls Tryd.prog 15 #[.pointer (some ⟨bo, 0, none⟩)] W fun e w' => e = .returned (S so.txt) ∧ Two B b s Bo bo so w' ∧ Below Bo W w' := by
  refine (h.swap.text hB).mono ?_
  rintro e w' ⟨rfl, hk, hb⟩
  exact ⟨rfl, hk.swap, hb⟩
theorem Two.now2 (h : Two B b s Bo bo so W) :
    Calls Tryd.prog 13 #[.pointer (some ⟨bo, 0, none⟩)] W fun e w' => e = .returned (S so.now) ∧ W = w' := h.swap.now
theorem Two.put2 (h : Two B b s Bo bo so W) (x : List UInt8) (at_ : Int) (ht : TG W) (hs : Smalls so) (hx : x.length ≤ 9223372036854775807) (hB : Bo ≤ W.heap.size) (hB0 : 1 < Bo) :
    Calls Tryd.prog 10 #[.pointer (some ⟨bo, 0, none⟩), .int .i64 at_, S x] W fun e w' => e = .returned (errV (putS so at_ x).1) ∧ Two B b s Bo bo (putS so at_ x).2 w' ∧ Below Bo W w' := by
  refine (h.swap.put x at_ ht hs hx hB hB0).mono ?_
  rintro e w' ⟨rfl, hk, hb⟩
  exact ⟨rfl, hk.swap, hb⟩
end
theorem err_ne0 {k : Int} (h : k ≠ 0) : errV k = .iface 56 (.int .i64 k) := err_ne h

end Go.Proofs.YtgmmlblefealjaaDoor
