/- What package dyck computes, in plain Lean. -/
import Derived.Test.YthhfkndhdjffgaaDoorPlain
namespace Go.Proofs.YthhfkndhdjffgaaDoor.DyckM
def W : Nat → Int → Int
  | 0, o => if o = 0 then 1 else 0
  | m + 1, o => if o < 0 ∨ (m : Int) + 1 < o then 0 else W m (o + 1) + W m (o - 1)
def chkGo : List UInt8 → Int → Int
  | [], o => if o = 0 then 0 else 7
  | c :: r, o => if c.toNat = 40 then chkGo r (o + 1) else if c.toNat = 41 then (if o - 1 < 0 then 7 else chkGo r (o - 1)) else 2
def chk (l : List UInt8) : Int := if 16 < l.length then 4 else chkGo l 0
def placeGo : List UInt8 → Int → Int → Int
  | [], _, a => a
  | c :: r, o, a => if c.toNat = 41 then placeGo r (o - 1) (a + W r.length (o + 1)) else placeGo r (o + 1) a
def atGo : Nat → Int → Int → List UInt8 → List UInt8
  | 0, _, _, acc => acc
  | m + 1, o, p, acc => if p < W m (o + 1) then atGo m (o + 1) p (acc ++ [40]) else atGo m (o - 1) (p - W m (o + 1)) (acc ++ [41])
def many (n : Int) : Int := W (2 * n.toNat) 0
def at_ (n p : Int) : List UInt8 := atGo (2 * n.toNat) 0 p []
/-- The order of texts. -/
def before : List UInt8 → List UInt8 → Bool
  | [], b => decide (0 < b.length)
  | _ :: _, [] => false
  | c :: a, d :: b => if c.toNat = d.toNat then before a b else decide (c.toNat < d.toNat)

theorem W_nonneg : ∀ (m : Nat) (o : Int), 0 ≤ W m o ∧ W m o ≤ 2 ^ m := by
  intro m
  induction m with
  | zero => intro o; unfold W; split <;> simp
  | succ m ih =>
    intro o
    unfold W
    have h := Int.pow_succ (2 : Int) m
    split
    · have := ih o; omega
    · have h1 := ih (o + 1)
      have h2 := ih (o - 1)
      omega
theorem W_small {m : Nat} {o : Int} (h : m ≤ 16) : W m o ≤ 65536 := by
  have h1 := (W_nonneg m o).2
  have h2 : ((2 ^ m : Nat) : Int) ≤ ((2 ^ 16 : Nat) : Int) := Int.ofNat_le.2 (Nat.pow_le_pow_right (by omega) h)
  have h3 : ((2 ^ m : Nat) : Int) = (2 : Int) ^ m := by simp
  omega
theorem W_out {m : Nat} {o : Int} (h : o < 0 ∨ (m : Int) < o) : W m o = 0 := by
  cases m with
  | zero => unfold W; rw [if_neg (by omega)]
  | succ m => unfold W; rw [if_pos (by omega)]
theorem W_in {m : Nat} {o : Int} (h : 0 ≤ o) (h2 : o ≤ (m : Int) + 1) : W (m + 1) o = W m (o + 1) + W m (o - 1) := by
  conv => lhs; unfold W
  rw [if_neg (by omega)]
end Go.Proofs.YthhfkndhdjffgaaDoor.DyckM
