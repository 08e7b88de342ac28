/- What package morse computes, in plain Lean. -/
import Derived.Test.YtaoppfcniifjhaaDoorPlain
namespace Go.Proofs.YtaoppfcniifjhaaDoor.MorseM
/-- Does the text begin with something twice, so long (d: and so many bytes more)? -/
def rep (d : Nat) (l : List UInt8) (k : Nat) : Bool := l.take (k + d) == (l.drop k).take (k + d)
/-- No such thing is shorter than k. -/
def noneTo (d : Nat) (l : List UInt8) (k : Nat) : Prop := ∀ j, 1 ≤ j → j < k → 2 * j + d ≤ l.length → rep d l j = false
/-- No such thing at all. -/
def noRep (d : Nat) (l : List UInt8) : Prop := ∀ j, 1 ≤ j → 2 * j + d ≤ l.length → rep d l j = false
/-- The first place and the shortest there. -/
def FoundAt (d : Nat) (l : List UInt8) (i k : Nat) : Prop := i < l.length ∧ 1 ≤ k ∧ 2 * k + d ≤ (l.drop i).length ∧ rep d (l.drop i) k = true ∧ noneTo d (l.drop i) k ∧ ∀ j, j < i → noRep d (l.drop j)
def NoneAt (d : Nat) (l : List UInt8) : Prop := ∀ j, j < l.length → noRep d (l.drop j)
/-- The parity of the ones of a number, as the code reckons it. -/
def odGo : Nat → Nat → Nat → Nat
  | 0, _, o => o
  | f + 1, i, o => if 0 < i then odGo f (i / 2) (o ^^^ (i % 2)) else o
def od (i : Nat) : Nat := odGo 64 i 0
def sign (i : Nat) : UInt8 := if od i = 0 then 48 else 49
def wGo : Nat → Nat → List UInt8 → List UInt8
  | 0, _, acc => acc
  | f + 1, i, acc => wGo f (i + 1) (acc ++ [sign i])
def word (n : Nat) : List UInt8 := (List.range n).map sign
theorem word_len (n : Nat) : (word n).length = n := by simp [word]
theorem word_succ (n : Nat) : word (n + 1) = word n ++ [sign n] := by simp [word, List.range_succ]
theorem noneTo_one (d : Nat) (l : List UInt8) : noneTo d l 1 := fun j h1 h2 => absurd h1 (by omega)
theorem noneTo_succ {d : Nat} {l : List UInt8} {k : Nat} (h : noneTo d l k) (hr : rep d l k = false) : noneTo d l (k + 1) := by
  intro j h1 h2 h3
  by_cases hj : j = k
  · subst hj; exact hr
  · exact h j h1 (by omega) h3
theorem noRep_of {d : Nat} {l : List UInt8} {k : Nat} (h : noneTo d l k) (hl : l.length < 2 * k + d) : noRep d l := fun j h1 h3 => h j h1 (by omega) h3
end Go.Proofs.YtaoppfcniifjhaaDoor.MorseM
