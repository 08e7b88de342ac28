/- The plain law of package dyck: ranking and unranking are inverse and rising; the Catalan recurrence; brackets joined, enclosed, mirrored. -/
import Derived.Test.YthhfkndhdjffgaaDoorDyckM
namespace Go.Proofs.YthhfkndhdjffgaaDoor.DyckM

theorem chk_zero {l : List UInt8} (h : chk l = 0) : l.length ≤ 16 ∧ chkGo l 0 = 0 := by
  unfold chk at h
  split at h
  · simp at h
  · exact ⟨by omega, h⟩
theorem chk_of {l : List UInt8} (h1 : l.length ≤ 16) (h2 : chkGo l 0 = 0) : chk l = 0 := by
  unfold chk; rw [if_neg (by omega)]; exact h2

/-- The text at a place, without what was gathered. -/
def atL : Nat → Int → Int → List UInt8
  | 0, _, _ => []
  | m + 1, o, p => if p < W m (o + 1) then 40 :: atL m (o + 1) p else 41 :: atL m (o - 1) (p - W m (o + 1))
theorem atGo_eq : ∀ (m : Nat) (o p : Int) (acc : List UInt8), atGo m o p acc = acc ++ atL m o p := by
  intro m
  induction m with
  | zero => intro o p acc; simp [atGo, atL]
  | succ m ih =>
    intro o p acc
    unfold atGo atL
    split
    · rw [ih]; simp
    · rw [ih]; simp
theorem placeGo_acc : ∀ (l : List UInt8) (o a : Int), placeGo l o a = a + placeGo l o 0 := by
  intro l
  induction l with
  | nil => intro o a; simp [placeGo]
  | cons c r ih =>
    intro o a
    unfold placeGo
    split
    · rw [ih, ih (o - 1) (0 + _)]; omega
    · rw [ih]
theorem at_spec : ∀ (m : Nat) (o p : Int), 0 ≤ o → 0 ≤ p → p < W m o → (atL m o p).length = m ∧ chkGo (atL m o p) o = 0 ∧ placeGo (atL m o p) o 0 = p := by
  intro m
  induction m with
  | zero =>
    intro o p ho hp h
    have h0 : o = 0 := by
      unfold W at h
      split at h
      · assumption
      · omega
    subst h0
    have : W 0 0 = 1 := rfl
    exact ⟨rfl, rfl, by show (0:Int) = p; omega⟩
  | succ m ih =>
    intro o p ho hp h
    by_cases hin : o ≤ (m : Int) + 1
    · rw [W_in ho hin] at h
      unfold atL
      split
      · rename_i hlt
        obtain ⟨h1, h2, h3⟩ := ih (o + 1) p (by omega) hp hlt
        refine ⟨by simp [h1], ?_, ?_⟩
        · unfold chkGo; rw [if_pos (by decide)]; exact h2
        · unfold placeGo; rw [if_neg (by decide)]; exact h3
      · rename_i hlt
        have ho' : 0 ≤ o - 1 := by
          rcases Int.lt_or_le (o - 1) 0 with h' | h'
          · rw [W_out (.inl h')] at h; omega
          · exact h'
        obtain ⟨h1, h2, h3⟩ := ih (o - 1) (p - W m (o + 1)) ho' (by omega) (by omega)
        refine ⟨by simp [h1], ?_, ?_⟩
        · unfold chkGo; rw [if_neg (by decide), if_pos (by decide), if_neg (by omega)]; exact h2
        · unfold placeGo; rw [if_pos (by decide), placeGo_acc, h3, h1]; omega
    · rw [W_out (.inr (by omega))] at h; omega
theorem place_spec : ∀ (l : List UInt8) (o : Int), 0 ≤ o → chkGo l o = 0 → 0 ≤ placeGo l o 0 ∧ placeGo l o 0 < W l.length o ∧ atL l.length o (placeGo l o 0) = l := by
  intro l
  induction l with
  | nil =>
    intro o ho h
    unfold chkGo at h
    split at h
    · rename_i h0; subst h0; exact ⟨by decide, by decide, rfl⟩
    · simp at h
  | cons c r ih =>
    intro o ho h
    unfold chkGo at h
    split at h
    · rename_i h40
      obtain ⟨h1, h2, h3⟩ := ih (o + 1) (by omega) h
      have hc : c = 40 := UInt8.toNat_inj.1 h40
      subst hc
      have hle : o + 1 ≤ (r.length : Int) := by
        rcases Int.lt_or_le (r.length : Int) (o + 1) with h' | h'
        · rw [W_out (.inr h')] at h2; omega
        · exact h'
      have hp : placeGo (40 :: r) o 0 = placeGo r (o + 1) 0 := by
        conv => lhs; unfold placeGo
        rw [if_neg (by decide)]
      rw [hp, List.length_cons, W_in ho (by omega)]
      have := (W_nonneg r.length (o - 1)).1
      refine ⟨h1, by omega, ?_⟩
      conv => lhs; unfold atL
      rw [if_pos h2, h3]
    · split at h
      · rename_i h40 h41
        split at h
        · simp at h
        · rename_i hop
          obtain ⟨h1, h2, h3⟩ := ih (o - 1) (by omega) h
          have hc : c = 41 := UInt8.toNat_inj.1 h41
          subst hc
          have hle : o - 1 ≤ (r.length : Int) := by
            rcases Int.lt_or_le (r.length : Int) (o - 1) with h' | h'
            · rw [W_out (.inr h')] at h2; omega
            · exact h'
          have hp : placeGo (41 :: r) o 0 = W r.length (o + 1) + placeGo r (o - 1) 0 := by
            conv => lhs; unfold placeGo
            rw [if_pos (by decide), placeGo_acc]; omega
          have hw := (W_nonneg r.length (o + 1)).1
          rw [hp, List.length_cons, W_in ho (by omega)]
          refine ⟨by omega, by omega, ?_⟩
          conv => lhs; unfold atL
          rw [if_neg (by omega), show W r.length (o + 1) + placeGo r (o - 1) 0 - W r.length (o + 1) = placeGo r (o - 1) 0 from by omega, h3]
      · simp at h
theorem parity : ∀ (l : List UInt8) (o : Int), chkGo l o = 0 → ∃ k : Int, (l.length : Int) + o = 2 * k := by
  intro l
  induction l with
  | nil => intro o h; unfold chkGo at h; split at h
           · exact ⟨0, by simp; omega⟩
           · simp at h
  | cons c r ih =>
    intro o h
    unfold chkGo at h
    split at h
    · obtain ⟨k, hk⟩ := ih _ h; exact ⟨k, by simp; omega⟩
    · split at h
      · split at h
        · simp at h
        · obtain ⟨k, hk⟩ := ih _ h; exact ⟨k + 1, by simp; omega⟩
      · simp at h
theorem at_mono : ∀ (m : Nat) (o p p' : Int), 0 ≤ o → 0 ≤ p → p < p' → p' < W m o → before (atL m o p) (atL m o p') = true := by
  intro m
  induction m with
  | zero =>
    intro o p p' ho hp hpp h
    unfold W at h
    split at h <;> omega
  | succ m ih =>
    intro o p p' ho hp hpp h
    by_cases hin : o ≤ (m : Int) + 1
    · rw [W_in ho hin] at h
      have ho' : ¬ p' < W m (o + 1) → 0 ≤ o - 1 := fun hlt => by
          rcases Int.lt_or_le (o - 1) 0 with h' | h'
          · rw [W_out (.inl h')] at h; omega
          · exact h'
      unfold atL
      by_cases h1 : p < W m (o + 1)
      · rw [if_pos h1]
        by_cases h2 : p' < W m (o + 1)
        · rw [if_pos h2]
          unfold before
          rw [if_pos rfl]
          exact ih _ _ _ (by omega) hp hpp h2
        · rw [if_neg h2]
          unfold before
          rw [if_neg (by decide)]
          rfl
      · rw [if_neg h1, if_neg (by omega)]
        unfold before
        rw [if_pos rfl]
        exact ih _ _ _ (ho' (by omega)) (by omega) (by omega) (by omega)
    · rw [W_out (.inr (by omega))] at h; omega

/-- Brackets from so many open on: how many are open behind. -/
def run : Int → List UInt8 → Option Int
  | o, [] => some o
  | o, c :: r => if c.toNat = 40 then run (o + 1) r else if c.toNat = 41 then (if o - 1 < 0 then none else run (o - 1) r) else none
theorem chk_run : ∀ (l : List UInt8) (o : Int), chkGo l o = 0 ↔ run o l = some 0 := by
  intro l
  induction l with
  | nil => intro o; unfold chkGo run; split <;> simp_all
  | cons c r ih =>
    intro o
    unfold chkGo run
    split
    · exact ih _
    · split
      · split
        · simp
        · exact ih _
      · simp
theorem run_app : ∀ (a b : List UInt8) (o : Int), run o (a ++ b) = (run o a).bind (fun p => run p b) := by
  intro a
  induction a with
  | nil => intro b o; rfl
  | cons c r ih =>
    intro b o
    simp only [List.cons_append, run]
    split
    · exact ih _ _
    · split
      · split
        · rfl
        · exact ih _ _
      · rfl
theorem run_up : ∀ (a : List UInt8) (o p d : Int), 0 ≤ d → run o a = some p → run (o + d) a = some (p + d) := by
  intro a
  induction a with
  | nil => intro o p d hd h; simp [run] at h ⊢; omega
  | cons c r ih =>
    intro o p d hd h
    unfold run at h ⊢
    split at h
    · rename_i hc; rw [if_pos hc]
      have := ih (o + 1) p d hd h
      rwa [show o + 1 + d = o + d + 1 from by omega] at this
    · rename_i hc; rw [if_neg hc]
      split at h
      · rename_i hc2; rw [if_pos hc2]
        split at h
        · simp at h
        · rw [if_neg (by omega)]
          have := ih (o - 1) p d hd h
          rwa [show o - 1 + d = o + d - 1 from by omega] at this
      · simp at h
/-- A text from its end, each bracket turned. -/
def turned : List UInt8 → List UInt8 → List UInt8
  | [], acc => acc
  | c :: r, acc => if c.toNat = 40 then turned r (41 :: acc) else turned r (40 :: acc)
theorem turned_yes {c : UInt8} {r acc : List UInt8} (h : c.toNat = 40) : turned (c :: r) acc = turned r (41 :: acc) := by
  conv => lhs; unfold turned
  rw [if_pos h]
theorem turned_no {c : UInt8} {r acc : List UInt8} (h : ¬ c.toNat = 40) : turned (c :: r) acc = turned r (40 :: acc) := by
  conv => lhs; unfold turned
  rw [if_neg h]
theorem turned_len : ∀ (a acc : List UInt8), (turned a acc).length = a.length + acc.length := by
  intro a
  induction a with
  | nil => intro acc; simp [turned]
  | cons c r ih => intro acc; unfold turned; split <;> rw [ih] <;> simp <;> omega
theorem run_turned : ∀ (a acc : List UInt8) (o p q : Int), 0 ≤ o → run o a = some p → run o acc = some q → run p (turned a acc) = some q := by
  intro a
  induction a with
  | nil => intro acc o p q ho h1 h2; simp [run] at h1; subst h1; exact h2
  | cons c r ih =>
    intro acc o p q ho h1 h2
    unfold run at h1
    unfold turned
    split at h1
    · rename_i hc; rw [if_pos hc]
      refine ih _ (o + 1) p q (by omega) h1 ?_
      unfold run
      rw [if_neg (by decide), if_pos (by decide), if_neg (by omega), show o + 1 - 1 = o from by omega]
      exact h2
    · rename_i hc; rw [if_neg hc]
      split at h1
      · split at h1
        · simp at h1
        · refine ih _ (o - 1) p q (by omega) h1 ?_
          unfold run
          rw [if_pos (by decide), show o - 1 + 1 = o from by omega]
          exact h2
      · simp at h1
theorem turned_ok {a : List UInt8} (h : chk a = 0) : chk (turned a []) = 0 := by
  obtain ⟨h1, h2⟩ := chk_zero h
  refine chk_of (by rw [turned_len]; simpa using h1) ?_
  rw [chk_run] at h2 ⊢
  exact run_turned a [] 0 0 0 (by omega) h2 rfl
theorem join_ok {a b : List UInt8} (ha : chk a = 0) (hb : chk b = 0) (h : a.length + b.length ≤ 16) : chk (a ++ b) = 0 := by
  refine chk_of (by simpa using h) ?_
  have h1 := (chk_zero ha).2
  have h2 := (chk_zero hb).2
  rw [chk_run] at h1 h2 ⊢
  rw [run_app, h1]; exact h2
theorem enclosed_ok {a : List UInt8} (ha : chk a = 0) (h : a.length ≤ 14) : chk (40 :: (a ++ [41])) = 0 := by
  refine chk_of (by simp; omega) ?_
  have h1 := (chk_zero ha).2
  rw [chk_run] at h1 ⊢
  have h3 := run_up a 0 0 1 (by omega) h1
  show run 0 (40 :: (a ++ [41])) = some 0
  unfold run
  rw [if_pos (by decide), run_app, h3]
  rfl

theorem many_nat (n : Nat) : many (n : Int) = W (2 * n) 0 := by simp [many]
def catN : Nat → Int := fun n => many (n : Int)
def catSum : Nat → Nat → Int → Int
  | 0, _, s => s
  | f + 1, n, s => catSum f n (s + many ((n - (f + 1) : Nat) : Int) * many ((f : Nat) : Int))
theorem catalan : ∀ n : Fin 9, 0 < n.val → many (n.val : Int) = catSum n.val n.val 0 := by decide +kernel
theorem many_bd : ∀ n : Fin 9, 1 ≤ many (n.val : Int) ∧ many (n.val : Int) ≤ 2000 := by decide +kernel
theorem many_le (k : Nat) (h : k ≤ 8) : 1 ≤ many (k : Int) ∧ many (k : Int) ≤ 2000 := many_bd ⟨k, by omega⟩
theorem catalan_ (N : Nat) (h : N ≤ 8) (h0 : N ≠ 0) : catSum N N 0 = many (N : Int) := (catalan ⟨N, by omega⟩ (by show 0 < N; omega)).symm
theorem at_fact : at_ 2 1 = [40, 41, 40, 41] := by decide +kernel
theorem many_fact : many 3 = 5 := by decide +kernel
theorem place_fact : placeGo [40, 41, 40, 41] 0 0 = 1 := by decide +kernel
theorem chk_fact : chk [40, 41, 40, 41] = 0 := by decide +kernel

theorem at_eq (n p : Int) : at_ n p = atL (2 * n.toNat) 0 p := by unfold at_; rw [atGo_eq]; rfl
theorem at_ok_spec {n p : Int} (h0 : 0 ≤ n) (h8 : n ≤ 8) (h1 : 0 ≤ p) (h2 : p ≤ many n - 1) : ((at_ n p).length : Int) = 2 * n ∧ chk (at_ n p) = 0 ∧ placeGo (at_ n p) 0 0 = p := by
  obtain ⟨a, b, c⟩ := at_spec (2 * n.toNat) 0 p (by omega) h1 (by unfold many at h2; omega)
  rw [at_eq]
  exact ⟨by omega, chk_of (by omega) b, c⟩
theorem at_rises {n p : Int} (h1 : 0 ≤ p) (h2 : p + 1 ≤ many n - 1) : before (at_ n p) (at_ n (p + 1)) = true := by
  rw [at_eq, at_eq]
  exact at_mono _ 0 p (p + 1) (by omega) h1 (by omega) (by unfold many at h2; omega)
theorem back {l : List UInt8} (h : chk l = 0) : ∃ n : Nat, l.length = 2 * n ∧ n ≤ 8 ∧ 0 ≤ placeGo l 0 0 ∧ placeGo l 0 0 ≤ many n - 1 ∧ at_ n (placeGo l 0 0) = l := by
  obtain ⟨h1, h2⟩ := chk_zero h
  obtain ⟨k, hk⟩ := parity l 0 h2
  obtain ⟨a, b, c⟩ := place_spec l 0 (by omega) h2
  refine ⟨k.toNat, by omega, by omega, a, ?_, ?_⟩
  · unfold many
    rw [show 2 * ((k.toNat : Nat) : Int).toNat = l.length from by omega]; omega
  · rw [at_eq, show 2 * ((k.toNat : Nat) : Int).toNat = l.length from by omega]; exact c
end Go.Proofs.YthhfkndhdjffgaaDoor.DyckM
