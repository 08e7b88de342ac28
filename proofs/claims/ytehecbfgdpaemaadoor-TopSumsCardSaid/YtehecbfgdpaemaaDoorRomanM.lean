/- What package roman computes, in plain Lean. -/
import Derived.Test.YtehecbfgdpaemaaDoorPlain
namespace Go.Proofs.YtehecbfgdpaemaaDoor.RomanM
def parts : List (Int × List UInt8) := [(1000, [77]), (900, [67, 77]), (500, [68]), (400, [67, 68]), (100, [67]), (90, [88, 67]), (50, [76]), (40, [88, 76]), (10, [88]), (9, [73, 88]), (5, [86]), (4, [73, 86]), (1, [73])]
def pn (k : Nat) : Int := (parts[k]?.getD (1, [73])).1
def ps (k : Nat) : List UInt8 := (parts[k]?.getD (1, [73])).2
/-- One part, as often as it fits. -/
def wIn : Nat → Int → List UInt8 → Int → List UInt8 → Int × List UInt8
  | 0, _, _, n, acc => (n, acc)
  | f + 1, p, s, n, acc => if p ≤ n then wIn f p s (n - p) (acc ++ s) else (n, acc)
/-- Parts from the k-th on, f of them. -/
def wOut : Nat → Nat → Int → List UInt8 → List UInt8
  | 0, _, _, acc => acc
  | f + 1, k, n, acc => wOut f (k + 1) (wIn 4000 (pn k) (ps k) n acc).1 (wIn 4000 (pn k) (ps k) n acc).2
def wr (n : Int) : List UInt8 := wOut 13 0 n []
def hasP : List UInt8 → List UInt8 → Bool
  | _, [] => true
  | [], _ :: _ => false
  | c :: a, d :: b => if c = d then hasP a b else false
def rIn : Nat → Int → List UInt8 → Int → List UInt8 → Int × List UInt8
  | 0, _, _, n, l => (n, l)
  | f + 1, p, s, n, l => if hasP l s then rIn f p s (n + p) (l.drop s.length) else (n, l)
def rOut : Nat → Nat → Int → List UInt8 → Int × List UInt8
  | 0, _, n, l => (n, l)
  | f + 1, k, n, l => rOut f (k + 1) (rIn 100 (pn k) (ps k) n l).1 (rIn 100 (pn k) (ps k) n l).2
/-- What a text is read as; 0: nothing. -/
def rd (l : List UInt8) : Int :=
  if (rOut 13 0 0 l).2 = [] ∧ 1 ≤ (rOut 13 0 0 l).1 ∧ (rOut 13 0 0 l).1 ≤ 3999 ∧ wr (rOut 13 0 0 l).1 = l then (rOut 13 0 0 l).1 else 0

theorem pn_bd (k : Nat) : 1 ≤ pn k ∧ pn k ≤ 1000 := by
  unfold pn
  rcases Nat.lt_or_ge k 13 with h | h
  · have : ∀ i : Fin 13, 1 ≤ (parts[i.val]?.getD (1, [73])).1 ∧ (parts[i.val]?.getD (1, [73])).1 ≤ 1000 := by decide
    exact this ⟨k, h⟩
  · rw [List.getElem?_eq_none h]; decide
theorem ps_bd (k : Nat) : 1 ≤ (ps k).length ∧ (ps k).length ≤ 2 := by
  unfold ps
  rcases Nat.lt_or_ge k 13 with h | h
  · have : ∀ i : Fin 13, 1 ≤ (parts[i.val]?.getD (1, [73])).2.length ∧ (parts[i.val]?.getD (1, [73])).2.length ≤ 2 := by decide
    exact this ⟨k, h⟩
  · rw [List.getElem?_eq_none h]; decide
theorem wIn_yes {f : Nat} {p n : Int} {s acc : List UInt8} {T : Int × List UInt8} (h : p ≤ n) (hT : wIn (f + 1) p s n acc = T) : wIn f p s (n - p) (acc ++ s) = T := by
  unfold wIn at hT; rwa [if_pos h] at hT
theorem wIn_no {f : Nat} {p n : Int} {s acc : List UInt8} {T : Int × List UInt8} (h : ¬ p ≤ n) (hT : wIn f p s n acc = T) : T = (n, acc) := by
  cases f with
  | zero => exact hT.symm
  | succ f => unfold wIn at hT; rw [if_neg h] at hT; exact hT.symm
theorem rIn_yes {f : Nat} {p n : Int} {s l : List UInt8} {T : Int × List UInt8} (h : hasP l s = true) (hT : rIn (f + 1) p s n l = T) : rIn f p s (n + p) (l.drop s.length) = T := by
  unfold rIn at hT; rwa [if_pos h] at hT
theorem rIn_no {f : Nat} {p n : Int} {s l : List UInt8} {T : Int × List UInt8} (h : hasP l s = false) (hT : rIn f p s n l = T) : T = (n, l) := by
  cases f with
  | zero => exact hT.symm
  | succ f => unfold rIn at hT; rw [if_neg (by simp [h])] at hT; exact hT.symm
theorem hasP_len : ∀ {l s : List UInt8}, hasP l s = true → s.length ≤ l.length := by
  intro l
  induction l with
  | nil => intro s h; cases s with
    | nil => simp
    | cons d b => simp [hasP] at h
  | cons c a ih => intro s h; cases s with
    | nil => simp
    | cons d b =>
      unfold hasP at h
      split at h
      · have := ih h; simp; omega
      · cases h
end Go.Proofs.YtehecbfgdpaemaaDoor.RomanM
