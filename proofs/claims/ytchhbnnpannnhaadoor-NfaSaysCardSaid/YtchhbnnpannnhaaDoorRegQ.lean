/- Package re's rows, choices, Parse: their walks. No condition. -/
import Derived.Test.YtchhbnnpannnhaaDoorRegP
namespace Go.Proofs.YtchhbnnpannnhaaDoor
open Go.RowKit IntWalk
attribute [local go_sem] byte_at str_app

theorem rd_ne {w : World} {t : Pt} {g r k : Nat} {s : List UInt8} (hnd : Nd w t g) (hr : w.heap[r]? = some (rObj s k)) : g ≠ r := fun e => by
  subst e
  obtain ⟨_, _, _, _, h⟩ := hnd.head
  rw [hr] at h
  injection h with h
  injection h with h _ _
  have := congrArg Array.size h
  simp at this
theorem Nd.alloc {w : World} {t : Pt} {g : Nat} (h : Nd w t g) (o : Obj) : Nd (w.alloc o) t g := h.below ((Below.refl _ w).alloc (Nat.le_refl _) o)
theorem Nd.setS {w : World} {t : Pt} {g r k : Nat} {s : List UInt8} (h : Nd w t g) (hr : w.heap[r]? = some (rObj s k)) (v : Value) : Nd (w.setCell ⟨r, 0, none⟩ v) t g := h.fr hr ((Fr1.refl r w).set 0 v)
theorem stars_at (m : Pt) (s : List UInt8) (h : 0 < s.length) : stars m s = if bu s 0 = 42 then stars (addStar m) (s.drop 1) else (m, s) := by
  cases s with
  | nil => exact absurd h (by simp)
  | cons c s => rfl
theorem rowL_at (O : PRd) (f : Nat) (n : Pt) (s : List UInt8) (k : Nat) (h : 0 < s.length) : rowL O (f + 1) n s k = if bu s 0 = 124 ∨ bu s 0 = 41 then some (n, s, k) else
    match O s k with
    | none => none
    | some (m, s2, k2) => rowL O f (addRow n (stars m s2).1) (stars m s2).2 k2 := by
  cases s with
  | nil => exact absurd h (by simp)
  | cons c s => rfl
theorem eitL_at (R : PRd) (f : Nat) (n : Pt) (s : List UInt8) (k : Nat) (h : 0 < s.length) : eitL R (f + 1) n s k = if bu s 0 = 124 then
      match R (s.drop 1) k with
      | none => none
      | some (m, s2, k2) => eitL R f (.alt n m) s2 k2
    else some (n, s, k) := by
  cases s with
  | nil => exact absurd h (by simp)
  | cons c s => rfl

set_option maxRecDepth 100000 in
set_option maxHeartbeats 4000000 in
theorem row_walk (E : PRd) (n : Nat) (hO : ConOne (oneE E) n) (hK : Kb (oneE E)) (hS : Sh1 (oneE E)) : ConRow (rowE E) n := by
  intro s k r w hn hk hr
  obtain ⟨k0, k1, z0, z1⟩ := rd_cells hr
  have HX : Hid (rowE E s k = rowL (oneE E) (s.length + 1) .emp s k) := Lib.hid rfl
  have HRD := Lib.hid (rd_alloc hr (nObj 1 0 0 none none))
  have HN1 : Hid (Nd (w.alloc (nObj 1 0 0 none none)) .emp w.heap.size) := Lib.hid (nd_new rfl _)
  have HF1 := Lib.hid ((Fr1.refl r w).alloc (nObj 1 0 0 none none))
  have HO := Lib.hid (fun (s' : List UInt8) (k' : Nat) W => hO s' k' r W)
  have HKB := Lib.hid hK; have HSH := Lib.hid hS
  generalize rowE E s k = X at *
  generalize oneE E = O at *
  clear hr hO hK hS
  go_enter Tryd.func41, Tryd.ntmps41
  go_wp2_with fail
  go_loopg [4, 5, 6] s.length (fun f nv mv ov wr => ∃ (s' : List UInt8) (k' : Nat) (t : Pt) (g F : Nat), f = s'.length ∧ s'.length ≤ s.length ∧ k' + s'.length ≤ 100 ∧ s'.length < F ∧ nv = .pointer (bl g) ∧ Hid (Nd wr t g) ∧ wr.heap[r]? = some (rObj s' k') ∧ Hid (Fr1 r w wr) ∧ Hid (X = rowL O F t s' k'))
  case atStart => exact ⟨s, k, .emp, _, s.length + 1, rfl, Nat.le_refl _, hk, Nat.lt_succ_self _, rfl, HN1, HRD.out, HF1, HX⟩
  case round =>
    obtain ⟨s', k', t, g, F, rfl, hl, hkl, hF, rfl, HT, hr, HFR, HX2⟩ := hrel
    clear HX HN1 HF1 HRD
    obtain ⟨F, rfl⟩ : ∃ F', F = F' + 1 := ⟨F - 1, by omega⟩
    obtain ⟨k0, k1, z0, z1⟩ := rd_cells hr
    have HR := Lib.hid hr
    rcases Nat.eq_zero_or_pos s'.length with h0 | h0
    · obtain rfl := List.length_eq_zero_iff.1 h0
      have HX3 : Hid (X = some (t, [], k')) := Lib.hid (by rw [HX2.out]; rfl)
      clear hr HX2
      go_wp2_with fail
      go_ret2
      refine ⟨?_, HFR.out⟩
      rw [HX3.out]
      exact ⟨g, rfl, HT.out, HR.out⟩
    have he := isE_ne h0
    have p1 : (0 : Int) < (s'.length : Int) := by omega
    have HX3 := Lib.hid (HX2.out.trans (rowL_at O F t s' k' h0))
    generalize hb : bu s' 0 = c at *
    by_cases h124 : c = 124
    · have HX4 : Hid (X = some (t, s', k')) := Lib.hid (by rw [HX3.out, if_pos (.inl h124)])
      have q1 : (c.toNat : Int) = 124 := by rw [h124]; rfl
      have q2 : ((c.toNat : Int) != 124) = false := by rw [q1]; rfl
      have q3 : c.toNat = 124 := by omega
      clear hr HX2 HX3 h124
      go_wp2_with fail
      go_ret2
      refine ⟨?_, HFR.out⟩
      rw [HX4.out]
      exact ⟨g, rfl, HT.out, HR.out⟩
    by_cases h41 : c = 41
    · have HX4 : Hid (X = some (t, s', k')) := Lib.hid (by rw [HX3.out, if_pos (.inr h41)])
      have q1 : (c.toNat : Int) = 41 := by rw [h41]; rfl
      have q2 : ((c.toNat : Int) != 41) = false := by rw [q1]; rfl
      have q2' : ((c.toNat : Int) != 124) = true := by rw [q1]; rfl
      have q3 : c.toNat = 41 := by omega
      clear hr HX2 HX3 h124 h41
      go_wp2_with fail
      go_ret2
      refine ⟨?_, HFR.out⟩
      rw [HX4.out]
      exact ⟨g, rfl, HT.out, HR.out⟩
    have HX4 : Hid (X = match O s' k' with
      | none => none
      | some (m, s2, k2) => rowL O F (addRow t (stars m s2).1) (stars m s2).2 k2) := Lib.hid (by rw [HX3.out, if_neg (by intro h; rcases h with h | h; exact h124 h; exact h41 h)])
    have q1 : ¬ (c.toNat : Int) = 124 := fun e => h124 (UInt8.toNat_inj.1 (by show c.toNat = 124; omega))
    have q2 : ((c.toNat : Int) != 124) = true := by simpa using q1
    have q3 : ¬ (c.toNat : Int) = 41 := fun e => h41 (UInt8.toNat_inj.1 (by show c.toNat = 41; omega))
    have q4 : ((c.toNat : Int) != 41) = true := by simpa using q3
    have q5 : ¬ c.toNat = 124 := by omega
    have q6 : ¬ c.toNat = 41 := by omega
    clear HX2 HX3 h124 h41
    go_wp2_with fail
    refine (HO.out s' k' wr h0 (by omega) hkl hr).mono ?_
    rintro e w2 ⟨hsy, hfr⟩
    have HF2 := Lib.hid (HFR.out.trans hfr)
    have HT2 := Lib.hid (HT.out.fr hr hfr)
    clear hfr k0 k1 z0 z1 hr q1 q2 q3 q4 q5 q6 he p1 HFR HT HR
    cases hq : O s' k' with
    | none =>
      rw [hq] at hsy
      obtain ⟨⟨v, rfl⟩, s2, k2, hr2⟩ := hsy
      have HX5 : Hid (X = none) := Lib.hid (by rw [HX4.out, hq])
      have HR' := Lib.hid hr2
      clear hr2 HX4 hq
      go_wp2_with fail
      go_ret2
      refine ⟨?_, HF2.out⟩
      rw [HX5.out]
      exact ⟨⟨none, rfl⟩, s2, k2, HR'.out⟩
    | some p =>
      obtain ⟨m, s2, k2⟩ := p
      have hkb := HKB.out _ _ _ _ _ hq
      have hsh := HSH.out _ _ _ _ _ hq
      rw [hq] at hsy
      obtain ⟨gm, rfl, hm, hr2⟩ := hsy
      have HX5 : Hid (X = rowL O F (addRow t (stars m s2).1) (stars m s2).2 k2) := Lib.hid (by rw [HX4.out, hq])
      have HST : Hid (stars m s2 = stars m s2) := Lib.hid rfl
      have HSL := Lib.hid (stars_len s2 m)
      generalize hst : stars m s2 = Z at *
      have HZ := Lib.hid hst
      have HM := Lib.hid hm
      have HR2 := Lib.hid hr2
      clear hm hr2 hst HX4 hq
      go_wp2_with fail
      go_loopg [5] s2.length (fun f mv wr => ∃ (s3 : List UInt8) (m3 : Pt) (g3 : Nat), f = s3.length ∧ s3.length ≤ s2.length ∧ mv = .pointer (bl g3) ∧ Hid (Nd wr m3 g3) ∧ Hid (Nd wr t g) ∧ wr.heap[r]? = some (rObj s3 k2) ∧ Hid (Fr1 r w wr) ∧ Hid (stars m3 s3 = Z))
      case atStart => exact ⟨s2, m, gm, rfl, Nat.le_refl _, rfl, HM, HT2, HR2.out, HF2, HZ⟩
      case round =>
        obtain ⟨s3, m3, g3, rfl, hl3, rfl, HM3, HT3, hr3, HF3, HZ3⟩ := hrel
        clear HM HT2 HR2 HF2 HZ HST
        obtain ⟨k0, k1, z0, z1⟩ := rd_cells hr3
        have HR3 := Lib.hid hr3
        by_cases hgo : 0 < s3.length ∧ bu s3 0 = 42
        · obtain ⟨h3, h42⟩ := hgo
          have he := isE_ne h3
          have p1 : (0 : Int) < (s3.length : Int) := by omega
          have p2 : (1 : Int) ≤ (s3.length : Int) := by omega
          have hx := str_from s3 1
          have HZ4 := Lib.hid ((stars_at m3 s3 h3).symm.trans HZ3.out)
          rw [if_pos h42] at HZ4
          have hdl : (s3.drop 1).length = s3.length - 1 := by simp
          generalize s3.drop 1 = d at *
          have q1 : ((bu s3 0).toNat : Int) = 42 := by rw [h42]; rfl
          have q2 : (bu s3 0).toNat = 42 := by omega
          have HRd := Lib.hid (rd_s hr3 d)
          have HMd := Lib.hid (HM3.out.setS hr3 (S d))
          have HTd := Lib.hid (HT3.out.setS hr3 (S d))
          have HFd := Lib.hid (HF3.out.set 0 (S d))
          have hgr := rd_ne HM3.out hr3
          have hgm := HM3.out.lt
          have hkc : (wr.setCell ⟨r, 0, none⟩ (S d)).cell? ⟨g3, 0, none⟩ = some (.int .i64 (kd m3)) := HMd.out.kind
          clear h42
          by_cases h5 : kd m3 = 5
          · rw [kd_str h5] at HZ4
            have q7 : (kd m3 == 5) = true := by simpa using h5
            rw [h5] at hkc
            clear hr3 q7
            go_wp2_with fail
            go_roundg d.length
            case measure => omega
            case rel => exact ⟨d, m3, g3, rfl, by omega, rfl, HMd, HTd, HRd.out, HFd, HZ4⟩
          · rw [addStar_of h5] at HZ4
            have q7 : (kd m3 == 5) = false := by simpa using h5
            have q8 : (kd m3 != 5) = true := by simpa using h5
            clear hr3
            generalize kd m3 = K at *
            go_wp2_with fail
            go_roundg d.length
            case measure => omega
            case rel => exact ⟨d, .str m3, _, rfl, by omega, rfl, Lib.hid ⟨g3, nd_new (by rw [sz_set]) _, HMd.out.alloc _⟩, Lib.hid (HTd.out.alloc _), rd_alloc HRd.out _, Lib.hid (HFd.out.alloc _), HZ4⟩
        · have hs0 : stars m3 s3 = (m3, s3) := by
            rcases Nat.eq_zero_or_pos s3.length with h | h
            · obtain rfl := List.length_eq_zero_iff.1 h
              rfl
            · rw [stars_at m3 s3 h, if_neg (fun e => hgo ⟨h, e⟩)]
          have HX6 : Hid (X = rowL O F (addRow t m3) s3 k2) := Lib.hid (by rw [HX5.out, ← HZ3.out, hs0])
          have hkc : wr.cell? ⟨g, 0, none⟩ = some (.int .i64 (kd t)) := HT3.out.kind
          have hgt := HT3.out.lt
          clear HX5 HZ3 hs0
          have fin : ∀ (w5 : World), True := fun _ => trivial
          clear fin
          by_cases h1 : kd t = 1
          · obtain rfl := kd_emp h1
            have HX7 : Hid (X = rowL O F m3 s3 k2) := HX6
            rw [h1] at hkc
            clear HX6 h1 hr3
            rcases Nat.eq_zero_or_pos s3.length with h | h
            · obtain rfl := List.length_eq_zero_iff.1 h
              clear hgo
              go_wp2_with fail
              go_roundg 0
              case measure => omega
              case rel => exact ⟨[], k2, m3, g3, F, rfl, by simp, by simp at hkb ⊢; omega, by simp at hl3 ⊢; omega, rfl, HM3, HR3.out, HF3, HX7⟩
            · have he := isE_ne h
              have p1 : (0 : Int) < (s3.length : Int) := by omega
              have h42 : ¬ bu s3 0 = 42 := fun e => hgo ⟨h, e⟩
              have q1 : ¬ ((bu s3 0).toNat : Int) = 42 := fun e => h42 (UInt8.toNat_inj.1 (by show (bu s3 0).toNat = 42; omega))
              have q2 : ¬ (bu s3 0).toNat = 42 := by omega
              have q3 : (((bu s3 0).toNat : Int) == 42) = false := by simpa using q1
              clear hgo h42
              go_wp2_with fail
              go_roundg s3.length
              case measure => omega
              case rel => exact ⟨s3, k2, m3, g3, F, rfl, by omega, by omega, by omega, rfl, HM3, HR3.out, HF3, HX7⟩
          · rw [addRow_of m3 h1] at HX6
            have q8 : (kd t == 1) = false := by simpa using h1
            clear hr3
            generalize kd t = K at *
            have HN5 : Hid (∀ W : World, Nd W t g → Nd W m3 g3 → Nd (W.alloc (nObj 4 0 0 (bl g) (bl g3))) (.seq t m3) W.heap.size) := Lib.hid fun W a b => ⟨g, g3, nd_new rfl _, a.alloc _, b.alloc _⟩
            rcases Nat.eq_zero_or_pos s3.length with h | h
            · obtain rfl := List.length_eq_zero_iff.1 h
              clear hgo
              go_wp2_with fail
              go_roundg 0
              case measure => omega
              case rel => exact ⟨[], k2, .seq t m3, _, F, rfl, by simp, by simp at hkb ⊢; omega, by simp at hl3 ⊢; omega, rfl, Lib.hid (HN5.out _ HT3.out HM3.out), rd_alloc HR3.out _, Lib.hid (HF3.out.alloc _), HX6⟩
            · have he := isE_ne h
              have p1 : (0 : Int) < (s3.length : Int) := by omega
              have h42 : ¬ bu s3 0 = 42 := fun e => hgo ⟨h, e⟩
              have q1 : ¬ ((bu s3 0).toNat : Int) = 42 := fun e => h42 (UInt8.toNat_inj.1 (by show (bu s3 0).toNat = 42; omega))
              have q2 : ¬ (bu s3 0).toNat = 42 := by omega
              have q3 : (((bu s3 0).toNat : Int) == 42) = false := by simpa using q1
              clear hgo h42
              go_wp2_with fail
              go_roundg s3.length
              case measure => omega
              case rel => exact ⟨s3, k2, .seq t m3, _, F, rfl, by omega, by omega, by omega, rfl, Lib.hid (HN5.out _ HT3.out HM3.out), rd_alloc HR3.out _, Lib.hid (HF3.out.alloc _), HX6⟩
set_option maxRecDepth 100000 in
set_option maxHeartbeats 4000000 in
theorem either_walk (E : PRd) (n : Nat) (hR : ConRow (rowE E) n) (hK : Kb (rowE E)) (hS : Sh (rowE E)) : ConEit (eitE E) n := by
  intro s k r w hn hk hr
  have HX : Hid (eitE E s k = match rowE E s k with
    | none => none
    | some (n, s2, k2) => eitL (rowE E) (s2.length + 1) n s2 k2) := Lib.hid rfl
  have HR := Lib.hid (fun (s' : List UInt8) (k' : Nat) W => hR s' k' r W)
  have HKB := Lib.hid hK; have HSH := Lib.hid hS
  generalize eitE E s k = X at *
  generalize rowE E = R at *
  clear hR hK hS
  go_enter Tryd.func31, Tryd.ntmps31
  go_wp2_with fail
  refine (HR.out s k w hn hk hr).mono ?_
  rintro e w1 ⟨hsy, hfr⟩
  have HF1 := Lib.hid hfr
  clear hfr hr
  cases hq : R s k with
  | none =>
    rw [hq] at hsy
    obtain ⟨⟨v, rfl⟩, s2, k2, hr2⟩ := hsy
    have HX1 : Hid (X = none) := Lib.hid (by rw [HX.out, hq])
    have HR' := Lib.hid hr2
    clear hr2 HX hq
    go_wp2_with fail
    go_loopg [4, 5, 6] 0 (fun f nv ov mv wr => f = 0 ∧ nv = .pointer v ∧ ov = .bool false ∧ wr = w1)
    case atStart => exact ⟨rfl, rfl, rfl, rfl⟩
    case round =>
      obtain ⟨rfl, rfl, rfl, rfl⟩ := hrel
      go_wp2_with fail
      go_ret2
      refine ⟨?_, HF1.out⟩
      rw [HX1.out]
      exact ⟨⟨v, rfl⟩, s2, k2, HR'.out⟩
  | some p =>
    obtain ⟨t, s2, k2⟩ := p
    have hkb := HKB.out _ _ _ _ _ hq
    have hsh := HSH.out _ _ _ _ _ hq
    rw [hq] at hsy
    obtain ⟨g, rfl, hm, hr2⟩ := hsy
    have HX1 : Hid (X = eitL R (s2.length + 1) t s2 k2) := Lib.hid (by rw [HX.out, hq])
    have HM := Lib.hid hm
    have HR2 := Lib.hid hr2
    clear hm hr2 HX hq
    go_wp2_with fail
    go_loopg [4, 5, 6] (s2.length + 1) (fun f nv ov mv wr => Hid (Fr1 r w wr) ∧ ((∃ (s' : List UInt8) (k' : Nat) (t : Pt) (g F : Nat), f = s'.length + 1 ∧ s'.length ≤ s.length ∧ k' + s'.length ≤ 100 ∧ s'.length < F ∧ nv = .pointer (bl g) ∧ ov = .bool true ∧ Hid (Nd wr t g) ∧ wr.heap[r]? = some (rObj s' k') ∧ Hid (X = eitL R F t s' k')) ∨ (f = 0 ∧ (∃ v, nv = .pointer v) ∧ ov = .bool false ∧ (∃ s' k', Hid (wr.heap[r]? = some (rObj s' k'))) ∧ Hid (X = none))))
    case atStart => exact ⟨HF1, .inl ⟨s2, k2, t, g, s2.length + 1, rfl, by omega, by omega, Nat.lt_succ_self _, rfl, rfl, HM, HR2.out, HX1⟩⟩
    case round =>
      obtain ⟨HF2, ⟨s', k', t', g', F, rfl, hl, hkl, hF, rfl, rfl, HT, hr, HX2⟩ | ⟨rfl, ⟨v, rfl⟩, rfl, ⟨s', k', HR3⟩, HX2⟩⟩ := hrel
      rotate_left
      · clear HF1 HX1 HM HR2
        go_wp2_with fail
        go_ret2
        refine ⟨?_, HF2.out⟩
        rw [HX2.out]
        exact ⟨⟨v, rfl⟩, s', k', HR3.out⟩
      clear HX1 HM HF1 HR2
      obtain ⟨F, rfl⟩ : ∃ F', F = F' + 1 := ⟨F - 1, by omega⟩
      obtain ⟨k0, k1, z0, z1⟩ := rd_cells hr
      have HRr := Lib.hid hr
      rcases Nat.eq_zero_or_pos s'.length with h0 | h0
      · obtain rfl := List.length_eq_zero_iff.1 h0
        have HX3 : Hid (X = some (t', [], k')) := Lib.hid (by rw [HX2.out]; rfl)
        clear hr HX2
        go_wp2_with fail
        go_ret2
        refine ⟨?_, HF2.out⟩
        rw [HX3.out]
        exact ⟨g', rfl, HT.out, HRr.out⟩
      have he := isE_ne h0
      have p1 : (0 : Int) < (s'.length : Int) := by omega
      have p2 : (1 : Int) ≤ (s'.length : Int) := by omega
      have HX3 := Lib.hid (HX2.out.trans (eitL_at R F t' s' k' h0))
      by_cases h124 : bu s' 0 = 124
      rotate_left
      · have HX4 : Hid (X = some (t', s', k')) := Lib.hid (by rw [HX3.out, if_neg h124])
        have q1 : ¬ ((bu s' 0).toNat : Int) = 124 := fun e => h124 (UInt8.toNat_inj.1 (by show (bu s' 0).toNat = 124; omega))
        have q2 : (((bu s' 0).toNat : Int) == 124) = false := by simpa using q1
        have q3 : ¬ (bu s' 0).toNat = 124 := by omega
        clear hr HX2 HX3 h124
        go_wp2_with fail
        go_ret2
        refine ⟨?_, HF2.out⟩
        rw [HX4.out]
        exact ⟨g', rfl, HT.out, HRr.out⟩
      have hx := str_from s' 1
      have hdl : (s'.drop 1).length = s'.length - 1 := by simp
      have HX4 : Hid (X = match R (s'.drop 1) k' with
        | none => none
        | some (m, s2, k2) => eitL R F (.alt t' m) s2 k2) := Lib.hid (by rw [HX3.out, if_pos h124])
      have q1 : ((bu s' 0).toNat : Int) = 124 := by rw [h124]; rfl
      have q3 : (bu s' 0).toNat = 124 := by omega
      generalize s'.drop 1 = d at *
      have HRd := Lib.hid (rd_s hr d)
      have HTd := Lib.hid (HT.out.setS hr (S d))
      have HFd := Lib.hid (HF2.out.set 0 (S d))
      clear HX2 HX3 h124
      go_wp2_with fail
      refine (HR.out d k' _ (by omega) (by omega) HRd.out).mono ?_
      rintro e w2 ⟨hsy, hfr⟩
      have HF3 := Lib.hid (HFd.out.trans hfr)
      have HT3 := Lib.hid (HTd.out.fr HRd.out hfr)
      clear hfr k0 k1 z0 z1 hr q1 q3 he p1 p2 HF2 HT HRr hx HRd HTd HFd
      cases hq : R d k' with
      | none =>
        rw [hq] at hsy
        obtain ⟨⟨v, rfl⟩, s3, k3, hr3⟩ := hsy
        have HX5 : Hid (X = none) := Lib.hid (by rw [HX4.out, hq])
        have HR' := Lib.hid (rd_alloc hr3 (nObj 3 0 0 (bl g') v))
        clear hr3 HX4 hq
        go_wp2_with fail
        go_roundg 0
        case measure => omega
        case rel => exact ⟨Lib.hid (HF3.out.alloc _), .inr ⟨rfl, ⟨_, rfl⟩, rfl, ⟨s3, k3, HR'⟩, HX5⟩⟩
      | some p =>
        obtain ⟨m, s3, k3⟩ := p
        have hkb3 := HKB.out _ _ _ _ _ hq
        have hsh3 := HSH.out _ _ _ _ _ hq
        rw [hq] at hsy
        obtain ⟨gm, rfl, hm, hr3⟩ := hsy
        have HX5 : Hid (X = eitL R F (.alt t' m) s3 k3) := Lib.hid (by rw [HX4.out, hq])
        have HR' := Lib.hid (rd_alloc hr3 (nObj 3 0 0 (bl g') (bl gm)))
        have HN5 : Hid (Nd (w2.alloc (nObj 3 0 0 (bl g') (bl gm))) (.alt t' m) w2.heap.size) := Lib.hid ⟨g', gm, nd_new rfl _, HT3.out.alloc _, hm.alloc _⟩
        clear hr3 hm HX4 hq
        go_wp2_with fail
        go_roundg (s3.length + 1)
        case measure => omega
        case rel => exact ⟨Lib.hid (HF3.out.alloc _), .inl ⟨s3, k3, .alt t' m, _, F, rfl, by omega, by omega, by omega, rfl, rfl, HN5, HR'.out, HX5⟩⟩
theorem con_all : ∀ n, ConEit (parE (n + 1)) n
  | 0 => either_walk _ 0 (row_walk _ 0 (fun s k r w h0 hn _ _ => by omega) ((lv_par 0).one (hd_par 0)).kb (sh_par 0).one) ((lv_par 0).row (hd_par 0)).kb (sh_par 0).row
  | n + 1 => either_walk _ (n + 1) (row_walk _ (n + 1) (one_walk _ n (con_all n) (lv_par (n + 1)).kb) ((lv_par (n + 1)).one (hd_par (n + 1))).kb (sh_par (n + 1)).one) ((lv_par (n + 1)).row (hd_par (n + 1))).kb (sh_par (n + 1)).row
/-- What Parse answers: 4, 2, or a tree. -/
def parsE (s : List UInt8) : Int := if 12 < s.length then 4 else match par s with
  | none => 2
  | some _ => 0
set_option maxRecDepth 100000 in
set_option maxHeartbeats 2000000 in
theorem parse_any (s : List UInt8) (w : World) (h9 : s.length ≤ 9223372036854775807) :
    Calls Tryd.prog 15 #[S s] w fun e w' => ((parsE s ≠ 0 ∧ e = .returned (.tuple #[.pointer none, errV (parsE s)])) ∨ ∃ t g, parsE s = 0 ∧ s.length ≤ 12 ∧ par s = some t ∧ e = .returned (.tuple #[.pointer (bl g), .nilIface]) ∧ Nd w' t g) ∧ Below w.heap.size w w' := by
  by_cases h12 : 12 < s.length
  · have HP : Hid (parsE s = 4) := Lib.hid (if_pos h12)
    generalize parsE s = X at *
    obtain rfl := HP.out
    go_enter Tryd.func15, Tryd.ntmps15
    go_wp2_with fail
    refine (long1_yes 12 s _ _ _ ?_ (by omega)).mono ?_
    · simp [World.cell?_alloc_new]
    rintro e w' ⟨rfl, rfl⟩
    go_wp2_with fail
    go_ret2
    exact ⟨.inl ⟨by decide, rfl⟩, (Below.refl _ _).alloc (Nat.le_refl _) _⟩
  have HP : Hid (parsE s = match par s with
    | none => 2
    | some _ => 0) := Lib.hid (if_neg h12)
  have HPR : Hid (par s = match parE (s.length + 1) s 0 with
    | some (t, [], _) => some t
    | _ => none) := Lib.hid rfl
  have HC := Lib.hid (fun W (r : Nat) => con_all s.length s 0 r W (Nat.le_refl _) (by omega))
  have h12' : s.length ≤ 12 := by omega
  generalize parsE s = X at *
  generalize par s = Y at *
  generalize parE (s.length + 1) s 0 = Z at *
  go_enter Tryd.func15, Tryd.ntmps15
  go_wp2_with fail
  refine (long1_no 12 s _ _ _ ?_ (by omega)).mono ?_
  · simp [World.cell?_alloc_new]
  rintro e w' ⟨rfl, rfl⟩
  have HB := Lib.hid (((Below.refl w.heap.size w).alloc (Nat.le_refl _) (.cells #[S s] 9)).alloc (by simp) (rObj s 0))
  have HR : Hid (((w.alloc (.cells #[S s] 9)).alloc (rObj s 0)).heap[w.heap.size + 1]? = some (rObj s 0)) := Lib.hid (nd_new (by simp) _)
  go_wp2_with fail
  refine (HC.out _ (w.heap.size + 1) HR.out).mono ?_
  rintro e w2 ⟨hsy, hfr⟩
  have HB2 := Lib.hid (HB.out.trans (hfr.below (B := w.heap.size) (by omega) (by simp; omega)))
  clear hfr HC HR HB
  match Z, hsy, HPR with
  | none, hsy, HPR =>
    obtain ⟨⟨v, rfl⟩, s2, k2, hr2⟩ := hsy
    have HY := HPR.out
    simp only [] at HY
    have HX0 := HP.out
    rw [HY] at HX0
    simp only [] at HX0
    have HX := Lib.hid HX0; have HYh := Lib.hid HY
    clear HY HX0 HP HPR
    clear hr2
    go_wp2_with fail
    go_ret2
    exact ⟨.inl ⟨by rw [HX.out]; decide, by rw [HX.out]; rfl⟩, HB2.out⟩
  | some (t, [], k2), hsy, HPR =>
    obtain ⟨g, rfl, hm, hr2⟩ := hsy
    have HY := HPR.out
    simp only [] at HY
    have HX0 := HP.out
    rw [HY] at HX0
    simp only [] at HX0
    have HX := Lib.hid HX0; have HYh := Lib.hid HY
    clear HY HX0 HP HPR
    obtain ⟨k0, _, _, _⟩ := rd_cells hr2
    have HM := Lib.hid hm
    clear hr2 hm
    go_wp2_with fail
    go_ret2
    exact ⟨.inr ⟨t, g, HX.out, h12', HYh.out, rfl, HM.out⟩, HB2.out⟩
  | some (t, c :: s2, k2), hsy, HPR =>
    obtain ⟨g, rfl, hm, hr2⟩ := hsy
    have HY := HPR.out
    simp only [] at HY
    have HX0 := HP.out
    rw [HY] at HX0
    simp only [] at HX0
    have HX := Lib.hid HX0; have HYh := Lib.hid HY
    clear HY HX0 HP HPR
    obtain ⟨k0, _, _, _⟩ := rd_cells hr2
    have hne := isE_ne (s := c :: s2) (by simp)
    generalize c :: s2 = s3 at *
    clear hr2 hm
    go_wp2_with fail
    go_ret2
    exact ⟨.inl ⟨by rw [HX.out]; decide, by rw [HX.out]; rfl⟩, HB2.out⟩
end Go.Proofs.YtchhbnnpannnhaaDoor
