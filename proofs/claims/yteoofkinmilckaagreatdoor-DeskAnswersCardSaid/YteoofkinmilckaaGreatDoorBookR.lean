/- The document's Digits, Sum, Book.down: their walks. No condition. -/
import Derived.Test.YteoofkinmilckaaGreatDoorBookS
import Derived.Lib.ItoaNum
namespace Go.Proofs.YteoofkinmilckaaGreatDoor
open Go.RowKit IntWalk
attribute [local go_sem] byte_at str_app
attribute [local go_sem ↓] Go.wp_at_zero Go.wp_at_succ

theorem dig10 (n : Nat) (h : n < 10) : (ByteArray.mk #[48, 49, 50, 51, 52, 53, 54, 55, 56, 57]).extract n (n + 1) = ByteArray.mk (Lib.decDigits n).toArray := by
  rw [Lib.decDigits_one h]
  match n, h with
  | 0, _ => rfl
  | 1, _ => rfl
  | 2, _ => rfl
  | 3, _ => rfl
  | 4, _ => rfl
  | 5, _ => rfl
  | 6, _ => rfl
  | 7, _ => rfl
  | 8, _ => rfl
  | 9, _ => rfl
theorem dec_len (n : Nat) (h : n ≤ 1000000) : (Lib.decDigits n).length ≤ 21 := by rw [← Lib.itoa_nonneg]; exact itoa_len n h

set_option maxRecDepth 100000 in
set_option maxHeartbeats 2000000 in
theorem digits_any (n : Nat) : ∀ (w : World), n ≤ 1000000 → Calls Tryz.prog 63 #[.int .i64 (n : Int)] w fun e w' => e = .returned (S (Lib.decDigits n)) ∧ w = w' := by
  induction n using Nat.strongRecOn with
  | ind n ih =>
    intro w hn
    by_cases h : n < 10
    · have h' : (n : Int) < 10 := by omega
      have hd := dig10 n h
      have f1 : IntKind.i64.wrap ((n : Int) + 1) = (n : Int) + 1 := i64_in _ (by omega)
      have f2 : (0 : Int) ≤ (n : Int) := by omega
      have f3 : (n : Int) ≤ (n : Int) + 1 := by omega
      have f4 : (n : Int) + 1 ≤ 10 := by omega
      have f5 : ((n : Int) + 1).toNat = n + 1 := by omega
      have f6 : (0 : Int) ≤ (n : Int) + 1 := by omega
      clear ih
      go_enter Tryz.func63, Tryz.ntmps63
      go_wp2_with fail
      go_ret
      exact ⟨rfl, rfl⟩
    · have h' : ¬ (n : Int) < 10 := by omega
      have hq := Lib.hid (ih (n / 10) (by omega))
      have hr := Lib.hid (ih (n % 10) (by omega))
      obtain ⟨q, hq'⟩ : ∃ q, q = n / 10 := ⟨_, rfl⟩
      obtain ⟨r, hr'⟩ : ∃ r, r = n % 10 := ⟨_, rfl⟩
      have f5 : Int.tdiv (n : Int) 10 = (q : Int) := by rw [Int.tdiv_eq_ediv_of_nonneg (by omega)]; omega
      have f3 : Int.tmod (n : Int) 10 = (r : Int) := by rw [Int.tmod_eq_emod_of_nonneg (by omega)]; omega
      have f6 : (n : Int) % 10 = (r : Int) := by omega
      have f7 : (n : Int) / 10 = (q : Int) := by omega
      have f1 : IntKind.i64.wrap (q : Int) = (q : Int) := i64_in _ (by omega)
      have f2 : IntKind.i64.wrap (r : Int) = (r : Int) := i64_in _ (by omega)
      have hl1 := dec_len (n / 10) (by omega)
      have hl2 := dec_len (n % 10) (by omega)
      have hdd : Hid (Lib.decDigits n = Lib.decDigits (n / 10) ++ Lib.decDigits (n % 10)) := Lib.hid (by
        rw [Lib.decDigits, dif_neg h, Lib.decDigits_one (show n % 10 < 10 by omega)])
      rw [← hq'] at hq hdd hl1
      rw [← hr'] at hr hdd hl2
      have hq9 : q ≤ 1000000 := by omega
      have hr9 : r ≤ 1000000 := by omega
      clear ih hq' hr'
      generalize Lib.decDigits q = X at *
      generalize Lib.decDigits r = Y at *
      generalize hD : Lib.decDigits n = D at *
      clear hD
      go_enter Tryz.func63, Tryz.ntmps63
      go_wp2_with fail
      refine (hq.out _ hq9).mono ?_
      rintro e w' ⟨rfl, rfl⟩
      go_wp2_with fail
      refine (hr.out _ hr9).mono ?_
      rintro e w' ⟨rfl, rfl⟩
      go_wp2_with fail
      go_ret
      exact ⟨by rw [hdd.out]; rfl, rfl⟩

/-- The sum from the end. -/
def tailS (l : List UInt8) : Nat → Nat → Nat
  | 0, _ => 0
  | f + 1, k => tailS l f (k + 1) + (k + 1) * (bu l k).toNat
theorem tailS_eq (l : List UInt8) : ∀ f, f ≤ l.length → sumP l l.length = tailS l f (l.length - f) + sumP l (l.length - f)
  | 0, _ => by simp [tailS]
  | f + 1, h => by
    rw [tailS_eq l f (by omega)]
    obtain ⟨k, hk⟩ : ∃ k, l.length - f = k + 1 := ⟨l.length - f - 1, by omega⟩
    rw [show l.length - (f + 1) = k by omega, hk]
    simp only [tailS, sumP]
    omega
set_option maxRecDepth 100000 in
set_option maxHeartbeats 2000000 in
theorem sumR_any (l : List UInt8) (w : World) (hl : l.length ≤ 1000) :
    Calls Tryz.prog 37 #[S l] w fun e w' => e = .returned (.int .i64 (sumM l : Int)) ∧ w = w' := by
  have HM : Hid (sumM l = sumP l l.length % 9973) := Lib.hid rfl
  generalize sumM l = M at *
  have HP : Hid (sumP l l.length ≤ l.length * 255000) := Lib.hid (sumP_le l _ hl)
  have HT : Hid (∀ f, f ≤ l.length → sumP l l.length = tailS l f (l.length - f) + sumP l (l.length - f)) := Lib.hid (tailS_eq l)
  generalize sumP l l.length = T at *
  go_enter Tryz.func37, Tryz.ntmps37
  have f0 : IntKind.i64.wrap ((l.length : Int) - 1) = (l.length : Int) - 1 := i64_in _ (by omega)
  go_wp2_with fail
  go_loopg [3, 4] l.length (fun f sv iv wr => f ≤ l.length ∧ iv = .int .i64 ((f : Int) - 1) ∧ sv = .int .i64 ((tailS l (l.length - f) f : Nat) : Int) ∧ wr = w)
  case atStart => exact ⟨by omega, rfl, by simp [tailS], rfl⟩
  case round =>
    obtain ⟨hf, rfl, rfl, rfl⟩ := hrel
    have h1 := HT.out (l.length - gk) (by omega)
    rw [show l.length - (l.length - gk) = gk by omega] at h1
    by_cases hlt : 0 < gk
    · obtain ⟨f, rfl⟩ : ∃ f, gk = f + 1 := ⟨gk - 1, by omega⟩
      have h2 := HT.out (l.length - f) (by omega)
      rw [show l.length - (l.length - f) = f by omega] at h2
      have hs : sumP l (f + 1) = sumP l f + (f + 1) * (bu l f).toNat := rfl
      have hb : (f + 1) * (bu l f).toNat ≤ 255000 := by
        have h1 : f + 1 ≤ 1000 := by omega
        have h2 : (bu l f).toNat ≤ 255 := by have := bu_lt l f; omega
        exact Nat.le_trans (Nat.mul_le_mul h1 h2) (by decide)
      have hPm := HP.out
      have ht : tailS l (l.length - f) f = tailS l (l.length - (f + 1)) (f + 1) + (f + 1) * (bu l f).toNat := by
        obtain ⟨k, hk⟩ : ∃ k, l.length - f = k + 1 := ⟨l.length - f - 1, by omega⟩
        rw [hk, show l.length - (f + 1) = k by omega]; rfl
      have hm : ((f : Int) + 1) * ((bu l f).toNat : Int) = (((f + 1) * (bu l f).toNat : Nat) : Int) := by rw [Int.natCast_mul]; rfl
      generalize sumP l f = P at *
      generalize sumP l (f + 1) = P' at *
      have HN2 : Hid (tailS l (l.length - f) f = tailS l (l.length - (f + 1)) (f + 1) + (f + 1) * (bu l f).toNat) := Lib.hid ht
      rw [ht] at h2
      clear ht hs
      generalize tailS l (l.length - (f + 1)) (f + 1) = n at *
      generalize (f + 1) * (bu l f).toNat = m at *
      have hn : n ≤ 255000000 := by omega
      have e1 : (0 : Int) ≤ ((f : Int) + 1) * ((bu l f).toNat : Int) := by rw [hm]; omega
      have e2 : ((f : Int) + 1) * ((bu l f).toNat : Int) ≤ 255000 := by rw [hm]; omega
      have e3 : f < l.length := by omega
      have e4 : (f : Int) < (l.length : Int) := by omega
      have e5 : (0 : Int) ≤ (f : Int) := by omega
      have HM2 := Lib.hid hm
      clear hm h1 h2 hPm
      go_wp2_with fail
      go_roundg f
      case measure => omega
      case rel =>
        have k1 : wrap64 ((bu l f).toNat : Int) = ((bu l f).toNat : Int) := wrap64_in _ (by have := bu_lt l f; omega)
        have k2 : wrap64 (m : Int) = (m : Int) := wrap64_in _ (by omega)
        have k3 : wrap64 ((n : Int) + (m : Int)) = (n : Int) + (m : Int) := wrap64_in _ (by omega)
        exact ⟨by omega, rfl, by rw [HN2.out]; congr 1; rw [k1, HM2.out, k2, k3]; omega, rfl⟩
    · obtain rfl : gk = 0 := by omega
      have hz : sumP l 0 = 0 := rfl
      rw [hz] at h1
      simp only [Nat.sub_zero, Nat.add_zero] at h1
      have HF := Lib.hid h1
      have HPm := HP.out
      generalize tailS l l.length 0 = N at *
      have h3 : N ≤ 255000000 := by omega
      go_wp2_with fail
      go_ret
      exact ⟨by rw [HM.out, HF.out]; simp, rfl⟩

/-- The document's book as a value. -/
abbrev BV (s : BS) : Value := .agg #[S s.now, S s.txt, .int .i64 (s.many : Int)]
theorem new_at (w : World) (a b : Obj) : ((w.alloc a).alloc b).heap[w.heap.size + 1]? = some b := by
  have := heap_alloc_new (w.alloc a) b
  rw [show (w.alloc a).heap.size = w.heap.size + 1 by simp] at this
  exact this
theorem new_lt (w : World) (a b : Obj) : w.heap.size + 1 < ((w.alloc a).alloc b).drew.drew.heap.size := by
  show _ < ((w.alloc a).alloc b).heap.size
  simp
theorem three_at {w : World} {g : Nat} {a b c : Value} {t : TypeId} (h : w.heap[g]? = some (.cells #[a, b, c] t)) : w.cell? ⟨g, 0, none⟩ = some a ∧ w.cell? ⟨g, 1, none⟩ = some b ∧ w.cell? ⟨g, 2, none⟩ = some c ∧ w.frozen? ⟨g, 0, none⟩ = false ∧ w.frozen? ⟨g, 1, none⟩ = false ∧ w.frozen? ⟨g, 2, none⟩ = false :=
  ⟨by rw [Lib.cell_of_heap h]; rfl, by rw [Lib.cell_of_heap h]; rfl, by rw [Lib.cell_of_heap h]; rfl, Lib.frozen_of_heap h 0, Lib.frozen_of_heap h 1, Lib.frozen_of_heap h 2⟩
theorem set3 {w : World} {g : Nat} {a b c x y z : Value} {t : TypeId} (h : w.heap[g]? = some (.cells #[a, b, c] t)) : (((w.setCell ⟨g, 0, none⟩ x).setCell ⟨g, 1, none⟩ y).setCell ⟨g, 2, none⟩ z).heap[g]? = some (.cells #[x, y, z] t) := by
  simp [World.setCell, Array.getElem?_modify, h]
theorem below3 {w w6 : World} {a b : Obj} {x y z : Value} (h : Below ((w.alloc a).alloc b).drew.drew.heap.size ((w.alloc a).alloc b).drew.drew w6) : Below w.heap.size w (((w6.setCell ⟨w.heap.size + 1, 0, none⟩ x).setCell ⟨w.heap.size + 1, 1, none⟩ y).setCell ⟨w.heap.size + 1, 2, none⟩ z) := by
  have h1 : Below w.heap.size w ((w.alloc a).alloc b).drew.drew := (((Below.refl _ w).alloc (Nat.le_refl _) _).alloc (by simp) _).drew.drew
  exact (((h1.trans (h.mono h1.size)).setCell (p := ⟨w.heap.size + 1, 0, none⟩) (Nat.le_succ _) _).setCell (p := ⟨w.heap.size + 1, 1, none⟩) (Nat.le_succ _) _).setCell (p := ⟨w.heap.size + 1, 2, none⟩) (Nat.le_succ _) _
theorem new_at2 (w : World) (a b : Obj) : (((w.alloc a).alloc b).drew).heap[w.heap.size + 1]? = some b := new_at w a b
theorem res_cell_tmp {P : Program} {fn : Func} {p q : Tmp} {ty : TypeId} (h : fn.results = #[.cell p ty, .tmp q]) (tmps : Array Value) (w : World) (g : Nat) (t : TypeId) (cs : Array Value) (fr : Nat × Nat) (d : TypeDesc)
    (hp : tmps.getD p undef = .pointer (some ⟨g, 0, none⟩)) (hg : w.heap[g]? = some (.cells cs t fr))
    (hu : P.underlying ty = some d) (hd : (match d with | .struct _ | .array _ _ => true | _ => false) = true) (hi : (P.info? ty).map (·.size) = some cs.size) :
    (results fn tmps).run P w = .ok (.tuple #[.agg cs, tmps.getD q undef]) w := by
  have hp' : tmps[p]?.getD undef = .pointer (some ⟨g, 0, none⟩) := by simpa using hp
  simp [results, h, hp', asAddr, run_loadVar_row w g t ty cs fr d hg hu hd hi]
set_option maxRecDepth 100000 in
set_option maxHeartbeats 2000000 in
theorem downR_any (s : BS) (l : List UInt8) (w : World) (hl : l.length ≤ 1000) (h1 : s.txt.length ≤ 100000) (h2 : s.many ≤ 100) :
    Calls Tryz.prog 66 #[BV s, S l] w fun e w' => e = .returned (BV ⟨s.now, s.txt ++ downM l, s.many + 1⟩) ∧ Below w.heap.size w w' := by
  obtain ⟨now, txt, many⟩ := s
  simp only [] at h1 h2
  have HD : Hid (downM l = l ++ [32] ++ Lib.itoa (sumM l : Int) ++ [10]) := Lib.hid rfl
  have hsl := sumM_lt l
  have HS := Lib.hid (sumR_any l)
  generalize sumM l = s at *
  rw [Lib.itoa_nonneg] at HD
  have HG := Lib.hid (digits_any s)
  have hdl := dec_len s (by omega)
  generalize Lib.decDigits s = D at *
  generalize downM l = DL at *
  go_enter Tryz.func66, Tryz.ntmps66
  go_wp2_with fail
  have nb1 : ¬ 9223372036854775807 < txt.length + l.length := by omega
  have nb2 : ¬ 9223372036854775807 < txt.length + l.length + 1 := by omega
  have nb3 : ¬ 9223372036854775807 < txt.length + (l.length + 1) + D.length := by omega
  have nb4 : ¬ 9223372036854775807 < txt.length + (l.length + (D.length + 1)) + 1 := by omega
  go_region_with (first
    | (refine (HS.out _ hl).mono ?_; rintro e w5 ⟨rfl, rfl⟩)
    | (refine (HG.out _ (by omega)).mono ?_; rintro e w6 ⟨rfl, rfl⟩))
  all_goals
    have f1 : IntKind.i64.wrap ((many : Int) + 1) = (many : Int) + 1 := i64_in _ (by omega)
    have ht : txt ++ (l ++ 32 :: (D ++ [10])) = txt ++ DL := by rw [HD.out]; simp
    rw [ht]
    clear nb1 nb2 nb3 nb4 HS HG
    go_wp2_with fail
    refine bodyPost_ret (results_cell_row rfl _ _ (w.heap.size + 1) 23 _ (0, 0) _ rfl (new_at2 w _ _) Tryz.underlying23 rfl (by kernel_rfl)) rfl ?_
    exact ⟨by simp, (((Below.refl _ w).alloc (Nat.le_refl _) _).alloc (by simp) _).drew⟩

theorem inR_any (n lo hi : Int) (w : World) :
    Calls Tryz.prog 65 #[.int .i64 n, .int .i64 lo, .int .i64 hi] w fun e w' => e = .returned (.bool (decide (lo ≤ n ∧ n ≤ hi))) ∧ w = w' := by
  by_cases h1 : lo ≤ n
  · by_cases h2 : n ≤ hi
    all_goals
      go_enter Tryz.func65, Tryz.ntmps65
      go_wp2
      go_ret
      exact ⟨by simp [h1, h2], rfl⟩
  · go_enter Tryz.func65, Tryz.ntmps65
    go_wp2
    go_ret
    exact ⟨ret_bool (by simp [show ¬ lo ≤ n from by omega]), rfl⟩

set_option maxRecDepth 100000 in
set_option maxHeartbeats 2000000 in
theorem putR_any (s : BS) (x : List UInt8) (at_ : Int) (w : World) (hs : Smalls s) (hx9 : x.length ≤ 9223372036854775807) :
    Calls Tryz.prog 38 #[BV s, .int .i64 at_, S x] w fun e w' => e = .returned (.tuple #[BV (putS s at_ x).2, .int .i64 (putS s at_ x).1]) ∧ Below w.heap.size w w' := by
  obtain ⟨g1, g2, g3⟩ := hs
  obtain ⟨now, txt, many⟩ := s
  simp only [] at g1 g2 g3
  have HE : Hid (putE now many at_ x = if ¬ (0 ≤ at_ ∧ at_ ≤ now.length) then 1 else if wordE x ≠ 0 then wordE x else if 24 < now.length + x.length ∨ many = 60 then 4 else 0) := Lib.hid rfl
  have HX : Hid (putS ⟨now, txt, many⟩ at_ x = (putE now many at_ x, if putE now many at_ x = 0 then ⟨putN now at_.toNat x, txt ++ downM (putL at_.toNat x), many + 1⟩ else ⟨now, txt, many⟩)) := Lib.hid rfl
  generalize putS ⟨now, txt, many⟩ at_ x = R at *
  by_cases h1 : 0 ≤ at_ ∧ at_ ≤ now.length
  rotate_left
  · have hF : R = (1, ⟨now, txt, many⟩) := by rw [HX.out, HE.out, if_pos h1]; rfl
    subst hF
    have HD := Lib.hid (show decide (0 ≤ at_ ∧ at_ ≤ (now.length : Int)) = false from decide_eq_false h1)
    clear h1
    go_enter Tryz.func38, Tryz.ntmps38
    go_wp2_with fail
    refine (inR_any _ _ _ _).mono ?_
    rintro e w' ⟨rfl, rfl⟩
    rw [HD.out]
    go_wp2_with fail
    refine bodyPost_ret (res_cell_tmp rfl _ _ (w.heap.size + 1) 23 _ (0, 0) _ rfl (new_at w _ _) Tryz.underlying23 rfl (by kernel_rfl)) rfl ?_
    exact ⟨rfl, ((Below.refl _ w).alloc (Nat.le_refl _) _).alloc (by simp) _⟩
  have HD := Lib.hid (show decide (0 ≤ at_ ∧ at_ ≤ (now.length : Int)) = true from decide_eq_true h1)
  have HI1 := Lib.hid h1
  by_cases h0 : x.length = 0
  · obtain rfl : x = [] := List.eq_nil_of_length_eq_zero h0
    have hF : R = (5, ⟨now, txt, many⟩) := by rw [HX.out, HE.out, if_neg (fun h => h HI1.out), if_pos (by decide)]; rfl
    subst hF
    clear h1 h0
    go_enter Tryz.func38, Tryz.ntmps38
    go_wp2_with fail
    refine (inR_any _ _ _ _).mono ?_
    rintro e w' ⟨rfl, rfl⟩
    rw [HD.out]
    go_wp2_with fail
    refine bodyPost_ret (res_cell_tmp rfl _ _ (w.heap.size + 1) 23 _ (0, 0) _ rfl (new_at w _ _) Tryz.underlying23 rfl (by kernel_rfl)) rfl ?_
    exact ⟨rfl, ((Below.refl _ w).alloc (Nat.le_refl _) _).alloc (by simp) _⟩
  have hx0 : x ≠ [] := fun h => h0 (by simp [h])
  have hl0 : ¬ (x.length : Int) = 0 := by omega
  have hl0' : ((x.length : Int) == 0) = false := by simp; exact hx0
  by_cases h8 : 8 < x.length
  · have hw : wordE x = 4 := by unfold wordE; rw [if_neg hx0, if_pos h8]
    have hF : R = (4, ⟨now, txt, many⟩) := by rw [HX.out, HE.out, if_neg (fun h => h HI1.out), hw]; rfl
    subst hF
    have h8' : (8 : Int) < (x.length : Int) := by omega
    clear h1
    go_enter Tryz.func38, Tryz.ntmps38
    go_wp2_with fail
    refine (inR_any _ _ _ _).mono ?_
    rintro e w' ⟨rfl, rfl⟩
    rw [HD.out]
    go_wp2_with fail
    refine bodyPost_ret (res_cell_tmp rfl _ _ (w.heap.size + 1) 23 _ (0, 0) _ rfl (new_at w _ _) Tryz.underlying23 rfl (by kernel_rfl)) rfl ?_
    exact ⟨rfl, ((Below.refl _ w).alloc (Nat.le_refl _) _).alloc (by simp) _⟩
  have h8' : ¬ (8 : Int) < (x.length : Int) := by omega
  have HW := Lib.hid (show wordE x = if x.all lo then 0 else 2 by unfold wordE; rw [if_neg hx0, if_neg h8])
  clear h1
  go_enter Tryz.func38, Tryz.ntmps38
  go_wp2_with fail
  refine (inR_any _ _ _ _).mono ?_
  rintro e w' ⟨rfl, rfl⟩
  rw [HD.out]
  go_wp2_with fail
  clear hl0 hl0'
  go_loopg [8] x.length (fun f iv wr => ∃ i : Nat, i + f = x.length ∧ iv = .int .i64 (i : Int) ∧ (x.take i).all lo = true ∧ wr = ((w.alloc (.cells #[S now, S txt, .int .i64 (many : Int)] 23)).alloc (.cells #[.string ⟨#[]⟩, .string ⟨#[]⟩, .int .i64 0] 23)))
  case atStart => exact ⟨0, by omega, rfl, rfl, rfl⟩
  case round =>
    obtain ⟨i, hif, rfl, hall, rfl⟩ := hrel
    by_cases hlt : i < x.length
    · obtain ⟨f, rfl⟩ : ∃ f, gk = f + 1 := ⟨gk - 1, by omega⟩
      have hst : (x.take (i + 1)).all lo = ((x.take i).all lo && lo (bu x i)) := by rw [take_succ_bu hlt, List.all_append]; simp
      rw [hall, Bool.true_and] at hst
      have HST := Lib.hid hst
      clear hst hall
      have hN : lo (bu x i) = false → R = (2, ⟨now, txt, many⟩) := fun hq => by
        have hz : x.all lo = false := by
          rw [List.all_eq_false]
          exact ⟨bu x i, bu_mem hlt, by rw [hq]; decide⟩
        rw [HX.out, HE.out, if_neg (fun h => h HI1.out), HW.out, hz]; rfl
      by_cases h1 : (97 : Int) ≤ ((bu x i).toNat : Int)
      · by_cases h2 : ((bu x i).toNat : Int) ≤ 122
        · have HL : Hid (lo (bu x i) = true) := Lib.hid (decide_eq_true (by omega))
          clear hN
          go_wp2_with fail
          go_roundg f
          case measure => omega
          case rel => exact ⟨i + 1, by omega, by simp, by rw [HST.out, HL.out], rfl⟩
        · have hF := hN (by simp [lo]; omega)
          clear hN
          subst hF
          go_wp2_with fail
          refine bodyPost_ret (res_cell_tmp rfl _ _ (w.heap.size + 1) 23 _ (0, 0) _ rfl (new_at w _ _) Tryz.underlying23 rfl (by kernel_rfl)) rfl ?_
          exact ⟨rfl, ((Below.refl _ w).alloc (Nat.le_refl _) _).alloc (by simp) _⟩
      · have hF := hN (by simp [lo]; omega)
        clear hN
        subst hF
        go_wp2_with fail
        refine bodyPost_ret (res_cell_tmp rfl _ _ (w.heap.size + 1) 23 _ (0, 0) _ rfl (new_at w _ _) Tryz.underlying23 rfl (by kernel_rfl)) rfl ?_
        exact ⟨rfl, ((Below.refl _ w).alloc (Nat.le_refl _) _).alloc (by simp) _⟩
    · obtain rfl : i = x.length := by omega
      rw [List.take_length] at hall
      have hw : wordE x = 0 := by rw [HW.out, hall]; rfl
      clear hall HW
      by_cases h24 : 24 < now.length + x.length
      · have hF : R = (4, ⟨now, txt, many⟩) := by rw [HX.out, HE.out, if_neg (fun h => h HI1.out), hw, if_neg (by decide), if_pos (.inl h24)]; rfl
        subst hF
        have h24' : (24 : Int) < (now.length : Int) + (x.length : Int) := by omega
        have f1 : IntKind.i64.wrap ((now.length : Int) + (x.length : Int)) = (now.length : Int) + (x.length : Int) := i64_in _ (by omega)
        clear hw
        go_wp2_with fail
        refine bodyPost_ret (res_cell_tmp rfl _ _ (w.heap.size + 1) 23 _ (0, 0) _ rfl (new_at w _ _) Tryz.underlying23 rfl (by kernel_rfl)) rfl ?_
        exact ⟨rfl, ((Below.refl _ w).alloc (Nat.le_refl _) _).alloc (by simp) _⟩
      have h24' : ¬ (24 : Int) < (now.length : Int) + (x.length : Int) := by omega
      have f1 : IntKind.i64.wrap ((now.length : Int) + (x.length : Int)) = (now.length : Int) + (x.length : Int) := i64_in _ (by omega)
      by_cases h60 : many = 60
      · have hF : R = (4, ⟨now, txt, many⟩) := by rw [HX.out, HE.out, if_neg (fun h => h HI1.out), hw, if_neg (by decide), if_pos (.inr h60)]; rfl
        subst hF
        have h60' : (60 : Int) ≤ (many : Int) := by omega
        clear hw h60
        go_wp2_with fail
        refine bodyPost_ret (res_cell_tmp rfl _ _ (w.heap.size + 1) 23 _ (0, 0) _ rfl (new_at w _ _) Tryz.underlying23 rfl (by kernel_rfl)) rfl ?_
        exact ⟨rfl, ((Below.refl _ w).alloc (Nat.le_refl _) _).alloc (by simp) _⟩
      have h60' : ¬ (60 : Int) ≤ (many : Int) := by omega
      have hF : R = (0, ⟨putN now at_.toNat x, txt ++ downM (putL at_.toNat x), many + 1⟩) := by rw [HX.out, HE.out, if_neg (fun h => h HI1.out), hw, if_neg (by decide), if_neg (by omega)]; rfl
      subst hF
      obtain ⟨at_, rfl⟩ : ∃ n : Nat, at_ = n := ⟨at_.toNat, by have := HI1.out; omega⟩
      have HTN : Hid (((at_ : Int)).toNat = at_) := Lib.hid (by simp)
      have hx1 := str_to now at_
      have hx2 := str_from now at_
      have hal : at_ ≤ now.length := by have := HI1.out; omega
      have hl1 : (now.take at_).length = at_ := by rw [List.length_take]; omega
      have hl2 : (now.drop at_).length = now.length - at_ := List.length_drop ..
      have f5 : (0 : Int) ≤ (at_ : Int) := by omega
      have f6 : (at_ : Int) ≤ (now.length : Int) := by omega
      have HL := Lib.hid (And.intro hl1 hl2)
      clear hw h60 HX HE
      go_wp2_with fail
      have hmin : min at_ now.length = at_ := by omega
      have nb1 : ¬ (9223372036854775807 < at_ + x.length) := by omega
      have nb2 : ¬ (9223372036854775807 < at_ + x.length + (now.length - at_)) := by omega
      have nb3 : ¬ (9223372036854775807 < at_ + (x.length + (now.length - at_))) := by omega
      generalize hW0 : (w.alloc (.cells #[S now, S txt, .int .i64 (many : Int)] 23)).alloc (.cells #[.string ⟨#[]⟩, .string ⟨#[]⟩, .int .i64 0] 23) = W0
      have c0 : W0.cell? ⟨w.heap.size, 0, none⟩ = some (S now) := by rw [← hW0]; simp
      go_still_tail 12, (by kernel_rfl)
      change wpList _ _ _ _ _ W0.drew
      subst hW0
      clear c0 nb1 nb2 nb3 hmin f5 f6 hl1 hl2 hx1 hx2
      have hN : now.take at_ ++ (x ++ now.drop at_) = putN now at_ x := by simp [putN]
      go_wp2_with fail
      have HPL : Hid (putL at_ x = lineM [112] (Lib.itoa (at_ : Int)) x) := Lib.hid rfl
      rw [Lib.itoa_nonneg] at HPL
      have hdl := dec_len at_ (by omega)
      have hpl : (putL at_ x).length ≤ 100 := by rw [HPL.out]; simp only [lineM, List.length_append, List.length_cons, List.length_nil]; omega
      have hnl : (putN now at_ x).length ≤ 24 := by rw [← hN]; have := HL.out.1; have := HL.out.2; simp only [List.length_append]; omega
      have hpe : 112 :: 32 :: (Lib.decDigits at_ ++ 32 :: x) = putL at_ x := by rw [HPL.out]; simp [lineM]
      have HG := Lib.hid (digits_any at_)
      have at9 : at_ ≤ 1000000 := by omega
      generalize hnn : putN now at_ x = N at *
      generalize hpp : putL at_ x = PL at *
      have HNN := Lib.hid hnn; have HPP := Lib.hid hpp
      clear hnn hpp
      generalize Lib.decDigits at_ = D at *
      have nb4 : ¬ 9223372036854775807 < 2 + D.length := by omega
      have nb5 : ¬ 9223372036854775807 < 2 + D.length + 1 := by omega
      have nb6 : ¬ 9223372036854775807 < D.length + 1 + 1 := by omega
      have nb7 : ¬ 9223372036854775807 < D.length + 1 + 1 + 1 := by omega
      go_region_with (first
        | (refine (HG.out _ at9).mono ?_; rintro e w5 ⟨rfl, rfl⟩)
        | (refine (downR_any ⟨N, txt, many⟩ PL _ (by omega) (by simp; omega) (by simp; omega)).mono ?_; rintro e w6 ⟨rfl, hb6⟩; have hg6 := (hb6.block (w.heap.size + 1) (new_lt w _ _)).trans (new_at w _ _); obtain ⟨q0, q1, q2, q3, q4, q5⟩ := three_at hg6))
      all_goals
        go_wp2_with fail
        refine bodyPost_ret (res_cell_tmp rfl _ _ (w.heap.size + 1) 23 _ (0, 0) _ rfl (set3 hg6) Tryz.underlying23 rfl (by kernel_rfl)) rfl ?_
        exact ⟨by rw [HNN.out, HPP.out]; rfl, below3 hb6⟩
end Go.Proofs.YteoofkinmilckaaGreatDoor
