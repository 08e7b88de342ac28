/- package book's number and line, at a log's lines. Condition: the table of internal/strconv.uint64pow10 reads as the library's text lays it. -/
import Derived.Test.YtgmmlblefealjaaDoorBookO
import Derived.Lib.IndexLaws
import Derived.Lib.IndexBytes
import Derived.Lib.LastIndexByte
import Derived.Lib.SmallJoins
namespace Go.Proofs.YtgmmlblefealjaaDoor
open Go.RowKit IntWalk
attribute [local go_sem] byte_at str_app
attribute [local go_sem ↓] Go.wp_at_zero Go.wp_at_succ

theorem digitVal_dig (d : Nat) (h : d < 10) : Lib.digitVal (UInt8.ofNat (48 + d)) = some d := by
  have e : (UInt8.ofNat (48 + d)).toNat = 48 + d := by show (48 + d) % 256 = 48 + d; omega
  unfold Lib.digitVal
  rw [e, if_pos (by omega)]
  congr 1; omega
theorem decFrom_snoc (l : List UInt8) (b : UInt8) (d : Nat) (hd : Lib.digitVal b = some d) : ∀ (acc m : Nat), Lib.decFrom acc l = some m → Lib.decFrom acc (l ++ [b]) = some (m * 10 + d) := by
  induction l with
  | nil => intro acc m h; simp only [Lib.decFrom, Option.some.injEq] at h; subst h; simp [Lib.decFrom, hd]
  | cons c l ih =>
    intro acc m h
    simp only [Lib.decFrom, List.cons_append] at h ⊢
    cases hc : Lib.digitVal c with
    | none => rw [hc] at h; cases h
    | some x => rw [hc] at h; exact ih _ _ h
theorem decFrom_dec (n : Nat) : Lib.decFrom 0 (Lib.decDigits n) = some n := by
  induction n using Nat.strongRecOn with
  | ind n ih =>
    by_cases h : n < 10
    · rw [Lib.decDigits_one h]
      show (match Lib.digitVal (UInt8.ofNat (48 + n)) with | some d => Lib.decFrom (0 * 10 + d) [] | none => none) = some n
      rw [digitVal_dig n h]
      show Lib.decFrom (0 * 10 + n) [] = some n
      rw [Nat.zero_mul, Nat.zero_add]; rfl
    · rw [Lib.decDigits, dif_neg h, decFrom_snoc _ _ _ (digitVal_dig (n % 10) (by omega)) 0 _ (ih (n / 10) (by omega))]
      congr 1; omega
theorem dec_ne (n : Nat) : Lib.decDigits n ≠ [] := by
  by_cases h : n < 10
  · rw [Lib.decDigits_one h]; simp
  · rw [Lib.decDigits, dif_neg h]; simp
theorem atoi_dec (n : Nat) : Lib.atoi (Lib.decDigits n) = some (n : Int) := by
  have h0 := dec_ne n
  have hm := dd_mem n
  have hf := decFrom_dec n
  cases hl : Lib.decDigits n with
  | nil => exact absurd hl h0
  | cons b r =>
    rw [hl] at hm hf
    have hb := hm b (by simp)
    have b1 : ¬ (b == 45) = true := by
      intro e
      have := beq_iff_eq.1 e
      subst this
      exact absurd hb.1 (by decide)
    have b2 : ¬ (b == 43) = true := by
      intro e
      have := beq_iff_eq.1 e
      subst this
      exact absurd hb.1 (by decide)
    show (if (b == 45) = true then (Lib.decNat r).map (fun (m : Nat) => -(m : Int)) else if (b == 43) = true then (Lib.decNat r).map (fun (m : Nat) => (m : Int)) else (Lib.decNat (b :: r)).map (fun (m : Nat) => (m : Int))) = some (n : Int)
    rw [if_neg b1, if_neg b2]
    unfold Lib.decNat
    rw [if_neg (by simp), hf]
    rfl

set_option maxRecDepth 100000 in
set_option maxHeartbeats 1000000 in
theorem number_dec (n : Nat) (w : World) (hn : n ≤ 1000000) (ht : TG w) :
    Calls Tryd.prog 44 #[S (Lib.decDigits n)] w fun e w' => e = .returned (.tuple #[.int .i64 (n : Int), .bool true]) ∧ Below w.heap.size w w' := by
  have hl := dd_len 6 n (by omega)
  have HA := Lib.hid (Tryd.strconv_Atoi ⟨(Lib.decDigits n).toArray⟩ (n : Int) (by simp [ByteArray.size]; omega) (by simpa using atoi_dec n) w)
  have HI := Lib.hid (fun W (h : TG W) => itoa_any n W hn h)
  rw [Lib.itoa_nonneg] at HI
  generalize Lib.decDigits n = D at *
  have HT := Lib.hid ht
  clear ht
  go_enter Tryd.func44, Tryd.ntmps44
  go_wp2_with fail
  refine HA.out.mono ?_
  rintro e w1 ⟨rfl, t, rfl⟩
  have HB1 := Lib.hid (Go.Joins.below_bytesWorld w.heap.size w 5 t (Nat.le_refl _))
  generalize Lib.bytesWorld w 5 t = w1 at *
  have f1 : (0 : Int) ≤ (n : Int) := by omega
  go_wp2_with fail
  refine (HI.out _ (HT.out.below HB1.out (Nat.le_refl _))).mono ?_
  rintro e w2 ⟨rfl, hb2⟩
  have HB2 := Lib.hid (HB1.out.trans (hb2.mono HB1.out.size))
  clear hb2
  go_wp2_with fail
  go_ret2
  exact ⟨by simp, HB2.out⟩

/-! Where a text is parted. -/
theorem lastIdx_at (p d : List UInt8) (h : ∀ c ∈ d, c ≠ 32) : Lib.lastIndexByte ⟨(p ++ 32 :: d).toArray⟩ 32 = (p.length : Int) := by
  have hsz : (ByteArray.mk (p ++ 32 :: d).toArray).size = p.length + (d.length + 1) := by simp [ByteArray.size]
  have hget : ∀ j, j < p.length + (d.length + 1) → (ByteArray.mk (p ++ 32 :: d).toArray).data[j]! = (p ++ 32 :: d).getD j 0 := fun j hj => by
    rw [getElem!_pos _ _ (by simpa using hj)]
    simp [List.getD_eq_getElem?_getD, List.getElem?_eq_getElem (show j < (p ++ 32 :: d).length by simpa using hj)]
  have hat : (p ++ 32 :: d).getD p.length 0 = 32 := by simp [List.getD_eq_getElem?_getD]
  have hbehind : ∀ j, p.length < j → j < p.length + (d.length + 1) → (p ++ 32 :: d).getD j 0 ≠ 32 := fun j h1 h2 => by
    obtain ⟨k, rfl⟩ : ∃ k, j = p.length + 1 + k := ⟨j - (p.length + 1), by omega⟩
    have hk : k < d.length := by omega
    have : (p ++ 32 :: d).getD (p.length + 1 + k) 0 = d[k] := by
      rw [List.getD_eq_getElem?_getD, List.getElem?_append_right (by omega), show p.length + 1 + k - p.length = k + 1 by omega, List.getElem?_cons_succ, List.getElem?_eq_getElem hk]
      rfl
    rw [this]
    exact h _ (List.getElem_mem hk)
  have hne : ∀ c : UInt8, c ≠ 32 → ((c.toNat : Int)) ≠ 32 := fun c hc e => hc (by
    apply UInt8.toNat_inj.1
    have : (32 : UInt8).toNat = 32 := rfl
    omega)
  unfold Lib.lastIndexByte
  rw [hsz]
  rcases Lib.lastIdx_spec ⟨(p ++ 32 :: d).toArray⟩ 32 (p.length + (d.length + 1)) with ⟨_, hn⟩ | ⟨i, hi, e, hc, hn⟩
  · exact absurd (by rw [hget _ (by omega), hat]; rfl) (hn p.length (by omega))
  · rw [e]
    rw [hget _ hi] at hc
    rcases Nat.lt_trichotomy i p.length with hlt | heq | hgt
    · exact absurd (by rw [hget _ (by omega), hat]; rfl) (hn p.length hlt (by omega))
    · rw [heq]
    · exact absurd hc (hne _ (hbehind i hgt hi))
theorem index_sp (a r : List UInt8) (h : ∀ c ∈ a, c ≠ 32) : Lib.index (a ++ 32 :: r) [32] = (a.length : Int) := by
  rw [Lib.index_one]
  induction a with
  | nil => simp [Lib.indexByte]
  | cons c a ih =>
    have hc : ¬ (c == 32) = true := fun e => h c (by simp) (beq_iff_eq.1 e)
    have := ih (fun d hd => h d (by simp [hd]))
    show (if (c == 32) = true then (0 : Int) else if (Lib.indexByte (a ++ 32 :: r) 32 == -1) = true then -1 else Lib.indexByte (a ++ 32 :: r) 32 + 1) = _
    rw [if_neg hc, this, if_neg (by rw [beq_iff_eq]; omega)]
    simp
theorem index_no (a : List UInt8) (h : ∀ c ∈ a, c ≠ 32) : Lib.index a [32] = -1 := by
  rw [Lib.index_one]
  induction a with
  | nil => rfl
  | cons c a ih =>
    have hc : ¬ (c == 32) = true := fun e => h c (by simp) (beq_iff_eq.1 e)
    have := ih (fun d hd => h d (by simp [hd]))
    show (if (c == 32) = true then (0 : Int) else if (Lib.indexByte a 32 == -1) = true then -1 else Lib.indexByte a 32 + 1) = _
    rw [if_neg hc, this]; rfl
theorem cut_sp (a r : List UInt8) : (ByteArray.mk (a ++ 32 :: r).toArray).extract (a.length + 1) (ByteArray.mk (a ++ 32 :: r).toArray).size = ⟨r.toArray⟩ := by
  have : (ByteArray.mk (a ++ 32 :: r).toArray).size = (a ++ 32 :: r).length := by simp [ByteArray.size]
  rw [this, str_from, show (a ++ 32 :: r) = (a ++ [32]) ++ r by simp, show a.length + 1 = (a ++ [32]).length by simp, List.drop_left]
theorem split3 (a b c : List UInt8) (ha : ∀ x ∈ a, x ≠ 32) (hb : ∀ x ∈ b, x ≠ 32) (hc : ∀ x ∈ c, x ≠ 32) :
    Lib.countB ⟨(a ++ 32 :: (b ++ 32 :: c)).toArray⟩ ⟨#[32]⟩ = 2 ∧ Lib.splitB ⟨#[32]⟩ 0 2 ⟨(a ++ 32 :: (b ++ 32 :: c)).toArray⟩ = [⟨a.toArray⟩, ⟨b.toArray⟩, ⟨c.toArray⟩] := by
  have i1 : Lib.indexB ⟨(a ++ 32 :: (b ++ 32 :: c)).toArray⟩ ⟨#[32]⟩ = (a.length : Int) := index_sp a _ ha
  have i2 : Lib.indexB ⟨(b ++ 32 :: c).toArray⟩ ⟨#[32]⟩ = (b.length : Int) := index_sp b _ hb
  have i3 : Lib.indexB ⟨c.toArray⟩ ⟨#[32]⟩ = -1 := index_no c hc
  have s1 : (ByteArray.mk #[32]).size = 1 := rfl
  constructor
  · rw [Lib.countB_hit _ _ a.length (by decide) i1, s1, cut_sp, Lib.countB_hit _ _ b.length (by decide) i2, s1, cut_sp, Lib.countB_miss _ _ i3]
  · rw [Lib.splitB_hit _ _ _ _ _ i1, s1, cut_sp, Lib.splitB_hit _ _ _ _ _ i2, s1, cut_sp, Lib.splitB_miss _ _ _ _ i3]
    congr 1
    · rw [Nat.add_zero, str_to, List.take_left]
    · congr 1
      rw [Nat.add_zero, str_to, List.take_left]
end Go.Proofs.YtgmmlblefealjaaDoor
