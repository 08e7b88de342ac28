/- The document's Line: its walk, at any text that is not too long. No condition. -/
import Derived.Test.YteoofkinmilckaaGreatDoorBookOb
namespace Go.Proofs.YteoofkinmilckaaGreatDoor
open Go.RowKit IntWalk
attribute [local go_sem] byte_at str_app
attribute [local go_sem ↓] Go.wp_at_zero Go.wp_at_succ

set_option maxRecDepth 100000 in
set_option maxHeartbeats 2000000 in
theorem sumR2_any (l : List UInt8) (w : World) (hl : l.length ≤ 2000) :
    Calls Tryz.prog 37 #[S l] w fun e w' => e = .returned (.int .i64 (sumM l : Int)) ∧ w = w' := by
  have HM : Hid (sumM l = sumP l l.length % 9973) := Lib.hid rfl
  generalize sumM l = M at *
  have HP : Hid (sumP l l.length ≤ l.length * 510000) := Lib.hid (sumP_le2 l _ hl)
  have HT : Hid (∀ f, f ≤ l.length → sumP l l.length = tailS l f (l.length - f) + sumP l (l.length - f)) := Lib.hid (tailS_eq l)
  generalize sumP l l.length = T at *
  go_enter Tryz.func37, Tryz.ntmps37
  have f0 : IntKind.i64.wrap ((l.length : Int) - 1) = (l.length : Int) - 1 := i64_in _ (by omega)
  go_wp2_with fail
  go_loopg [3, 4] l.length (fun f sv iv wr => f ≤ l.length ∧ iv = .int .i64 ((f : Int) - 1) ∧ sv = .int .i64 ((tailS l (l.length - f) f : Nat) : Int) ∧ wr = w)
  case atStart => exact ⟨by omega, rfl, by simp [tailS], rfl⟩
  case round =>
    obtain ⟨hf, rfl, rfl, rfl⟩ := hrel
    have h1 := HT.out (l.length - gk) (by omega)
    rw [show l.length - (l.length - gk) = gk by omega] at h1
    by_cases hlt : 0 < gk
    · obtain ⟨f, rfl⟩ : ∃ f, gk = f + 1 := ⟨gk - 1, by omega⟩
      have h2 := HT.out (l.length - f) (by omega)
      rw [show l.length - (l.length - f) = f by omega] at h2
      have hs : sumP l (f + 1) = sumP l f + (f + 1) * (bu l f).toNat := rfl
      have hb : (f + 1) * (bu l f).toNat ≤ 510000 := by
        have h1 : f + 1 ≤ 2000 := by omega
        have h2 : (bu l f).toNat ≤ 255 := by have := bu_lt l f; omega
        exact Nat.le_trans (Nat.mul_le_mul h1 h2) (by decide)
      have hPm := HP.out
      have ht : tailS l (l.length - f) f = tailS l (l.length - (f + 1)) (f + 1) + (f + 1) * (bu l f).toNat := by
        obtain ⟨k, hk⟩ : ∃ k, l.length - f = k + 1 := ⟨l.length - f - 1, by omega⟩
        rw [hk, show l.length - (f + 1) = k by omega]; rfl
      have hm : ((f : Int) + 1) * ((bu l f).toNat : Int) = (((f + 1) * (bu l f).toNat : Nat) : Int) := by rw [Int.natCast_mul]; rfl
      generalize sumP l f = P at *
      generalize sumP l (f + 1) = P' at *
      have HN2 : Hid (tailS l (l.length - f) f = tailS l (l.length - (f + 1)) (f + 1) + (f + 1) * (bu l f).toNat) := Lib.hid ht
      rw [ht] at h2
      clear ht hs
      generalize tailS l (l.length - (f + 1)) (f + 1) = n at *
      generalize (f + 1) * (bu l f).toNat = m at *
      have hn : n ≤ 1020000000 := by omega
      have e1 : (0 : Int) ≤ ((f : Int) + 1) * ((bu l f).toNat : Int) := by rw [hm]; omega
      have e2 : ((f : Int) + 1) * ((bu l f).toNat : Int) ≤ 510000 := by rw [hm]; omega
      have e3 : f < l.length := by omega
      have e4 : (f : Int) < (l.length : Int) := by omega
      have e5 : (0 : Int) ≤ (f : Int) := by omega
      have HM2 := Lib.hid hm
      clear hm h1 h2 hPm
      go_wp2_with fail
      go_roundg f
      case measure => omega
      case rel =>
        have k1 : wrap64 ((bu l f).toNat : Int) = ((bu l f).toNat : Int) := wrap64_in _ (by have := bu_lt l f; omega)
        have k2 : wrap64 (m : Int) = (m : Int) := wrap64_in _ (by omega)
        have k3 : wrap64 ((n : Int) + (m : Int)) = (n : Int) + (m : Int) := wrap64_in _ (by omega)
        exact ⟨by omega, rfl, by rw [HN2.out]; congr 1; rw [k1, HM2.out, k2, k3]; omega, rfl⟩
    · obtain rfl : gk = 0 := by omega
      have hz : sumP l 0 = 0 := rfl
      rw [hz] at h1
      simp only [Nat.sub_zero, Nat.add_zero] at h1
      have HF := Lib.hid h1
      have HPm := HP.out
      generalize tailS l l.length 0 = N at *
      have h3 : N ≤ 1020000000 := by omega
      go_wp2_with fail
      go_ret
      exact ⟨by rw [HM.out, HF.out]; simp, rfl⟩

/-- What a line does to a book, the document's way: what stands before the last blank, and behind it. -/
def lineP (s : BS) (a d : List UInt8) : Int × BS :=
  match numO d with
  | none => (2, s)
  | some n => if n ≠ sumM a then (6, s) else
    match cutB 32 a with
    | [x, y, z] => (match numO y with
      | none => (2, s)
      | some i => if x = [112] then putS s i z else if x = [99] then (match numO z with
        | none => (2, s)
        | some k => cutS s i k) else (2, s))
    | _ => (2, s)
theorem lineR_no {s : BS} {l : List UInt8} (h : ∀ x ∈ l, x ≠ 32) : lineR s l = (2, s) := by
  have : Lib.lastIndexByte ⟨l.toArray⟩ 32 < 0 := by
    unfold Lib.lastIndexByte
    rcases Lib.lastIdx_spec ⟨l.toArray⟩ 32 (ByteArray.mk l.toArray).size with ⟨h, _⟩ | ⟨i, hi, e, hc, hn⟩
    · rw [h]; decide
    · exfalso
      have hi' : i < l.length := by simpa [ByteArray.size] using hi
      rw [getElem!_pos _ _ (by simpa using hi')] at hc
      have hm : l[i] ∈ l := List.getElem_mem hi'
      refine h _ hm (UInt8.toNat_inj.1 ?_)
      have : (32 : UInt8).toNat = 32 := rfl
      have hc2 : ((l[i].toNat : Nat) : Int) = 32 := by simpa using hc
      omega
  unfold lineR
  rw [if_pos this]
theorem lineR_part' {s : BS} {a d : List UInt8} (h : ∀ x ∈ d, x ≠ 32) : lineR s (a ++ 32 :: d) = lineP s a d := by
  unfold lineR lineP
  rw [lastIdx_at a d h, if_neg (by omega), Int.toNat_natCast, List.take_left, splitL_cut _ a (Nat.le_refl _)]
  rw [show (a ++ 32 :: d).drop (a.length + 1) = d by rw [show a ++ 32 :: d = (a ++ [32]) ++ d by simp, show a.length + 1 = (a ++ [32]).length by simp, List.drop_left]]
  rfl
theorem lineR_at {s : BS} {l : List UInt8} {p : Nat} (hp : p < l.length) (hb : bu l p = 32) (h : ∀ x ∈ l.drop (p + 1), x ≠ 32) : lineR s l = lineP s (l.take p) (l.drop (p + 1)) := by
  have e : l = l.take p ++ 32 :: l.drop (p + 1) := by
    have := drop_part (l := l) (a := 0) hp (by omega) hb
    simpa using this
  conv => lhs; rw [e]
  exact lineR_part' h
theorem cutB_len (c : UInt8) : ∀ (l x : List UInt8), x ∈ cutB c l → x.length ≤ l.length
  | [], x, h => by simp only [cutB, List.mem_singleton] at h; rw [h]; exact Nat.le_refl _
  | y :: l, x, h => by
    have ih := cutB_len c l
    unfold cutB at h
    by_cases e : y = c
    · rw [if_pos e, List.mem_cons] at h
      rcases h with rfl | h
      · simp
      · have := ih x h; simp; omega
    · rw [if_neg e] at h
      cases hq : cutB c l with
      | nil => exact absurd hq (cutB_ne _ _)
      | cons z t =>
        rw [hq] at h ih
        simp only [List.mem_cons] at h
        rcases h with rfl | h
        · have := ih z (by simp); simp; omega
        · have := ih x (by simp [h]); simp; omega
theorem two_at {w : World} {g g' : Nat} {o o' : Obj} {w' : World} (h : w.heap[g]? = some o) (h' : w.heap[g']? = some o') (hb : Below w.heap.size w w') : w'.heap[g]? = some o ∧ w'.heap[g']? = some o' :=
  ⟨(hb.block g (Array.getElem?_eq_some_iff.1 h).1).trans h, (hb.block g' (Array.getElem?_eq_some_iff.1 h').1).trans h'⟩
theorem old_at (w : World) (a b : Obj) : ((w.alloc a).alloc b).heap[w.heap.size]? = some a := by
  rw [Lib.alloc_old _ b w.heap.size (by simp)]
  exact heap_alloc_new w a
theorem below_two {w w3 : World} {a b : Obj} (h : Below ((w.alloc a).alloc b).heap.size ((w.alloc a).alloc b) w3) : Below w.heap.size w w3 := by
  have h1 : Below w.heap.size w ((w.alloc a).alloc b) := ((Below.refl _ w).alloc (Nat.le_refl _) _).alloc (by simp) _
  exact h1.trans (h.mono h1.size)
theorem below_set3' {w w6 : World} {x y z : Value} (h : Below w.heap.size w w6) : Below w.heap.size w (((w6.setCell ⟨w.heap.size + 1, 0, none⟩ x).setCell ⟨w.heap.size + 1, 1, none⟩ y).setCell ⟨w.heap.size + 1, 2, none⟩ z) :=
  ((h.setCell (p := ⟨w.heap.size + 1, 0, none⟩) (Nat.le_succ _) _).setCell (p := ⟨w.heap.size + 1, 1, none⟩) (Nat.le_succ _) _).setCell (p := ⟨w.heap.size + 1, 2, none⟩) (Nat.le_succ _) _

set_option maxRecDepth 100000 in
set_option maxHeartbeats 8000000 in
theorem lineD_any (s : BS) (l : List UInt8) (w : World) (hs : Smalls s) (hl : l.length ≤ 2000) :
    Calls Tryz.prog 22 #[BV s, S l] w fun e w' => e = .returned (.tuple #[BV (lineR s l).2, .int .i64 (lineR s l).1]) ∧ Below w.heap.size w w' := by
  have HS := Lib.hid hs
  obtain ⟨now, txt, many⟩ := s
  have HN : Hid ((∀ x ∈ l, x ≠ 32) → lineR ⟨now, txt, many⟩ l = (2, ⟨now, txt, many⟩)) := Lib.hid lineR_no
  have HA : Hid (∀ p, p < l.length → bu l p = 32 → (∀ x ∈ l.drop (p + 1), x ≠ 32) → lineR ⟨now, txt, many⟩ l = lineP ⟨now, txt, many⟩ (l.take p) (l.drop (p + 1))) := Lib.hid fun p => lineR_at
  generalize lineR ⟨now, txt, many⟩ l = R at *
  clear hs
  have f0 : IntKind.i64.wrap ((l.length : Int) - 1) = (l.length : Int) - 1 := i64_in _ (by omega)
  go_enter Tryz.func22, Tryz.ntmps22
  go_wp2_with fail
  go_loopg [6] l.length (fun f iv wr => f ≤ l.length ∧ iv = .int .i64 ((f : Int) - 1) ∧ Hid (∀ x ∈ l.drop f, x ≠ 32) ∧ wr = ((w.alloc (.cells #[S now, S txt, .int .i64 (many : Int)] 23)).alloc (.cells #[.string ⟨#[]⟩, .string ⟨#[]⟩, .int .i64 0] 23)))
  case atStart => exact ⟨Nat.le_refl _, rfl, Lib.hid fun x hx => by simp at hx, rfl⟩
  case round =>
    obtain ⟨hf, rfl, HNO, rfl⟩ := hrel
    by_cases h0 : gk = 0
    · subst h0
      have hR : R = (2, ⟨now, txt, many⟩) := HN.out (by have := HNO.out; rwa [List.drop_zero] at this)
      subst hR
      clear HNO HN HA
      go_wp2_with fail
      refine bodyPost_ret (res_cell_tmp rfl _ _ (w.heap.size + 1) 23 _ (0, 0) _ rfl (new_at w _ _) Tryz.underlying23 rfl (by kernel_rfl)) rfl ?_
      exact ⟨rfl, ((Below.refl _ w).alloc (Nat.le_refl _) _).alloc (by simp) _⟩
    obtain ⟨p, rfl⟩ : ∃ p, gk = p + 1 := ⟨gk - 1, by omega⟩
    have e0 : ((p + 1 : Nat) : Int) - 1 = (p : Int) := by omega
    rw [e0]
    have e1 : (0 : Int) ≤ (p : Int) := by omega
    have e2 : (p : Int) < (l.length : Int) := by omega
    have e3 : p < l.length := by omega
    clear h0 e0
    by_cases hb : bu l p = 32
    rotate_left
    · have q0 : (bu l p).toNat ≠ 32 := fun e => hb (UInt8.toNat_inj.1 e)
      have q1 : ¬ ((bu l p).toNat : Int) = 32 := by omega
      have q2 : (((bu l p).toNat : Int) == 32) = false := by simpa using q1
      have q3 : ((bu l p).toNat == 32) = false := by simpa using q0
      have q4 : (((bu l p).toNat : Int) != 32) = true := by simpa using q1
      have HNO2 : Hid (∀ x ∈ l.drop p, x ≠ 32) := Lib.hid fun x hx => by
        rw [List.drop_eq_getElem_cons e3, List.mem_cons] at hx
        rcases hx with rfl | hx
        · have : bu l p = l[p] := by unfold bu; rw [List.getElem?_eq_getElem e3]; rfl
          rw [← this]; exact hb
        · exact HNO.out x hx
      have f1 : IntKind.i64.wrap ((p : Int) - 1) = (p : Int) - 1 := i64_in _ (by omega)
      clear hb
      go_wp2_with fail
      go_roundg p
      case measure => omega
      case rel => exact ⟨by omega, by simp, HNO2.out, rfl⟩
    · have q0 : (bu l p).toNat = 32 := by rw [hb]; rfl
      have q1 : ((bu l p).toNat : Int) = 32 := by omega
      have HX := Lib.hid (HA.out p e3 hb HNO.out)
      have hx1 := str_from l (p + 1)
      have hx2 := str_to l p
      have hDl : (l.drop (p + 1)).length ≤ 2000 := by rw [List.length_drop]; omega
      have hPl : (l.take p).length ≤ 2000 := by rw [List.length_take]; omega
      clear HNO HN HA hb
      generalize l.drop (p + 1) = D at *
      generalize l.take p = P at *
      have f1 : IntKind.i64.wrap ((p : Int) + 1) = (p : Int) + 1 := i64_in _ (by omega)
      have f2 : (0 : Int) ≤ (p : Int) + 1 := by omega
      have f3 : (p : Int) + 1 ≤ (l.length : Int) := by omega
      have f4 : ((p : Int) + 1).toNat = p + 1 := by omega
      have f7 : (p : Int) ≤ (l.length : Int) := by omega
      have HND := Lib.hid (fun W => numberR_any D W (by omega))
      have HSU := Lib.hid (sumR2_any P)
      have HCU := Lib.hid (fun W => cutL_any P 32 W (by omega))
      have HCL : Hid (∀ x ∈ cutB 32 P, x.length ≤ 2000) := Lib.hid fun x hx => Nat.le_trans (cutB_len _ _ _ hx) hPl
      have hX := HX.out
      unfold lineP at hX
      have HX1 := Lib.hid hX
      clear hX HX
      go_wp2_with fail
      refine (HND.out _).mono ?_
      rintro e w' ⟨⟨v, rfl, hv⟩, rfl⟩
      clear HND
      cases hnd : numO D with
      | none =>
        have hX := HX1.out
        rw [hnd] at hX
        have hR : R = (2, ⟨now, txt, many⟩) := hX
        subst hR
        clear hX HX1 hnd hv HCL HCU HSU
        rw [show (none : Option Nat).isSome = false from rfl]
        go_wp2_with fail
        refine bodyPost_ret (res_cell_tmp rfl _ _ (w.heap.size + 1) 23 _ (0, 0) _ rfl (new_at w _ _) Tryz.underlying23 rfl (by kernel_rfl)) rfl ?_
        exact ⟨rfl, ((Below.refl _ w).alloc (Nat.le_refl _) _).alloc (by simp) _⟩
      | some n =>
        obtain rfl := hv n hnd
        have hX := HX1.out
        rw [hnd] at hX
        simp only [] at hX
        have HX2 := Lib.hid hX
        clear hX HX1 hnd hv
        rw [show (some n).isSome = true from rfl]
        go_wp2_with fail
        refine (HSU.out _ hPl).mono ?_
        rintro e w' ⟨rfl, rfl⟩
        clear HSU
        by_cases hsum : n = sumM P
        rotate_left
        · have hR : R = (6, ⟨now, txt, many⟩) := by rw [HX2.out, if_pos hsum]
          subst hR
          have hne : ((n : Int) == (sumM P : Int)) = false := by simp; omega
          have hne2 : ((n : Int) != (sumM P : Int)) = true := by simp; omega
          clear HX2 HCU HCL
          generalize sumM P = u at *
          clear hsum
          go_wp2_with fail
          refine bodyPost_ret (res_cell_tmp rfl _ _ (w.heap.size + 1) 23 _ (0, 0) _ rfl (new_at w _ _) Tryz.underlying23 rfl (by kernel_rfl)) rfl ?_
          exact ⟨rfl, ((Below.refl _ w).alloc (Nat.le_refl _) _).alloc (by simp) _⟩
        have hX := HX2.out
        rw [if_neg (fun h => h hsum)] at hX
        have HX3 := Lib.hid hX
        clear hX HX2
        rw [← hsum]
        clear hsum
        go_wp2_with fail
        refine (HCU.out _).mono ?_
        rintro e w3 ⟨⟨A, k, rfl, hst, _⟩, hb3⟩
        obtain ⟨hg0, hg1⟩ := two_at (old_at w _ _) (new_at w _ _) hb3
        have HG0 := Lib.hid hg0; have HG1 := Lib.hid hg1
        have HB3 := Lib.hid (below_two hb3)
        have HST := Lib.hid hst
        clear hb3 hst HCU
        obtain ⟨b0, b1, b2, _, _, _⟩ := three_at hg0
        obtain ⟨r0, r1, r2, z0, z1, z2⟩ := three_at hg1
        clear hg0 hg1
        generalize cutB 32 P = ws at *
        by_cases h3 : ws.length = 3
        rotate_left
        · have hR : R = (2, ⟨now, txt, many⟩) := by
            rw [HX3.out]
            match ws, h3 with
            | [], _ => rfl
            | [_], _ => rfl
            | [_, _], _ => rfl
            | [_, _, _], h => exact absurd rfl h
            | _ :: _ :: _ :: _ :: _, _ => rfl
          subst hR
          have q1 : ((ws.length : Int) == 3) = false := by simp; omega
          have q2 : ((ws.length : Int) != 3) = true := by simp; omega
          clear HX3 HCL HST
          generalize ws.length = wl at *
          go_wp2_with fail
          refine bodyPost_ret (res_cell_tmp rfl _ _ (w.heap.size + 1) 23 _ (0, 0) _ rfl (set3 HG1.out) Tryz.underlying23 rfl (by kernel_rfl)) rfl ?_
          exact ⟨rfl, below_set3' HB3.out⟩
        obtain ⟨x, y, z, rfl⟩ : ∃ x y z, ws = [x, y, z] := by
          match ws, h3 with
          | [x, y, z], _ => exact ⟨x, y, z, rfl⟩
        obtain ⟨ba, oa, rfl, hba, ca⟩ := HST.out.at_ (k := 0) (by simp)
        obtain ⟨bb, ob, eb, _, cb⟩ := HST.out.at_ (k := 1) (by simp)
        obtain ⟨bc, oc, ec, _, cc⟩ := HST.out.at_ (k := 2) (by simp)
        injection eb with eb
        injection eb with eb1 eb2 _
        subst eb1 eb2
        injection ec with ec
        injection ec with ec1 ec2 _
        subst ec1 ec2
        have ca : w3.cell? ⟨ba, oa, none⟩ = some (S x) := ca
        have cb : w3.cell? ⟨ba, oa + 1, none⟩ = some (S y) := cb
        have cc : w3.cell? ⟨ba, oa + 2, none⟩ = some (S z) := cc
        have HNY := Lib.hid (fun W => numberR_any y W (by have := HCL.out y (by simp); omega))
        have HNZ := Lib.hid (fun W => numberR_any z W (by have := HCL.out z (by simp); omega))
        have hzl := HCL.out z (by simp)
        have hX := HX3.out
        simp only [] at hX
        have HX4 := Lib.hid hX
        rw [show (([x, y, z] : List (List UInt8)).length) = 3 from rfl]
        clear hX HX3 HST HCL h3
        go_wp2_with fail
        refine (HNY.out _).mono ?_
        rintro e w' ⟨⟨v, rfl, hv⟩, rfl⟩
        clear HNY
        cases hny : numO y with
        | none =>
          have hX := HX4.out
          rw [hny] at hX
          have hR : R = (2, ⟨now, txt, many⟩) := hX
          subst hR
          clear hX HX4 hny hv HNZ
          rw [show (none : Option Nat).isSome = false from rfl]
          go_wp2_with fail
          refine bodyPost_ret (res_cell_tmp rfl _ _ (w.heap.size + 1) 23 _ (0, 0) _ rfl (set3 HG1.out) Tryz.underlying23 rfl (by kernel_rfl)) rfl ?_
          exact ⟨rfl, below_set3' HB3.out⟩
        | some i =>
          obtain rfl := hv i hny
          have hX := HX4.out
          rw [hny] at hX
          simp only [] at hX
          have HX5 := Lib.hid hX
          clear hX HX4 hny hv
          rw [show (some i).isSome = true from rfl]
          by_cases ha : x = [112]
          · have hR : R = putS ⟨now, txt, many⟩ i z := by rw [HX5.out, if_pos ha]
            subst ha
            have HRR := Lib.hid hR
            clear hR HX5 HNZ
            have HPT : Hid (∀ W4 : World, Calls Tryz.prog 38 #[BV ⟨now, txt, many⟩, .int .i64 (i : Int), S z] W4 fun e w' => e = .returned (.tuple #[BV R.2, .int .i64 R.1]) ∧ Below W4.heap.size W4 w') := Lib.hid fun W4 => by
              have := putR_any ⟨now, txt, many⟩ z (i : Int) W4 HS.out (by omega)
              rw [← HRR.out] at this
              exact this
            obtain ⟨e0, s'⟩ := R
            go_upto_region 18 with fail
            go_region_with (refine (HPT.out _).mono ?_; rintro e w6 ⟨rfl, hb6⟩; have hg6 := (Below.block hb6 (w.heap.size + 1) (Array.getElem?_eq_some_iff.1 HG1.out).1).trans HG1.out; obtain ⟨t0, t1, t2, t3, t4, t5⟩ := three_at hg6)
            all_goals
              have HB6 := Lib.hid (Below.trans HB3.out ((Below.drew (Below.refl _ w3)).trans (hb6.mono HB3.out.size)))
              clear hb6
              go_wp2_with fail
              refine bodyPost_ret (res_cell_tmp rfl _ _ (w.heap.size + 1) 23 _ (0, 0) _ rfl (set3 hg6) Tryz.underlying23 rfl (by kernel_rfl)) rfl ?_
              exact ⟨rfl, below_set3' HB6.out⟩
          · have q3 : (x == [112]) = false := by simpa using ha
            have hX := HX5.out
            rw [if_neg ha] at hX
            have HX6 := Lib.hid hX
            clear hX HX5 ha
            go_wp2_with fail
            refine (HNZ.out _).mono ?_
            rintro e w' ⟨⟨v, rfl, hv⟩, rfl⟩
            clear HNZ
            cases hnz : numO z with
            | none =>
              have hR : R = (2, ⟨now, txt, many⟩) := by
                rw [HX6.out, hnz]
                split <;> rfl
              subst hR
              clear HX6 hnz hv
              rw [show (none : Option Nat).isSome = false from rfl]
              go_wp2_with fail
              refine bodyPost_ret (res_cell_tmp rfl _ _ (w.heap.size + 1) 23 _ (0, 0) _ rfl (set3 HG1.out) Tryz.underlying23 rfl (by kernel_rfl)) rfl ?_
              exact ⟨rfl, below_set3' HB3.out⟩
            | some k2 =>
              obtain rfl := hv k2 hnz
              rw [show (some k2).isSome = true from rfl]
              by_cases ha2 : x = [99]
              · have hR : R = cutS ⟨now, txt, many⟩ i k2 := by rw [HX6.out, if_pos ha2, hnz]
                subst ha2
                have HRR := Lib.hid hR
                clear hR HX6 hnz hv
                go_wp2_with fail
                refine (cutR_any ⟨now, txt, many⟩ (i : Int) (k2 : Int) w3 HS.out).mono ?_
                rw [← HRR.out]
                rintro e w6 ⟨rfl, hb6⟩
                have hg6 := (hb6.block (w.heap.size + 1) (Array.getElem?_eq_some_iff.1 HG1.out).1).trans HG1.out
                have HB6 := Lib.hid (HB3.out.trans (hb6.mono HB3.out.size))
                obtain ⟨t0, t1, t2, t3, t4, t5⟩ := three_at hg6
                obtain ⟨e0, s'⟩ := R
                clear hb6
                go_wp2_with fail
                refine bodyPost_ret (res_cell_tmp rfl _ _ (w.heap.size + 1) 23 _ (0, 0) _ rfl (set3 hg6) Tryz.underlying23 rfl (by kernel_rfl)) rfl ?_
                exact ⟨rfl, below_set3' HB6.out⟩
              · have hR : R = (2, ⟨now, txt, many⟩) := by rw [HX6.out, if_neg ha2]
                have q4 : (x == [99]) = false := by simpa using ha2
                subst hR
                clear HX6 hnz hv ha2
                go_wp2_with fail
                refine bodyPost_ret (res_cell_tmp rfl _ _ (w.heap.size + 1) 23 _ (0, 0) _ rfl (set3 HG1.out) Tryz.underlying23 rfl (by kernel_rfl)) rfl ?_
                exact ⟨rfl, below_set3' HB3.out⟩
end Go.Proofs.YteoofkinmilckaaGreatDoor
