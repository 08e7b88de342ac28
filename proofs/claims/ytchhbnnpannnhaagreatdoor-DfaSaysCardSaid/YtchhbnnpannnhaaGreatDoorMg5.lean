/- Texts joined, each with its own conditions. (1) Package re's rows, choices, Parse: their walks. No condition. (2) slices.Sort of at most twelve bytes, slices.Compact of bytes: the library's own text, walked (after the kit's Sort/WalkA and Shelf/SlicesE/Compact, turned to bytes). No condition. (3) Package re's Leaves and Signs: their walks. No condition. -/
import Derived.Test.YtchhbnnpannnhaaGreatDoorMg4
import Derived.Test.YtchhbnnpannnhaaGreatDoorMg2
import Derived.Test.YtchhbnnpannnhaaGreatDoorMg1
import Derived.Sort.WalkA
import Derived.Sort.WalkB12
import Derived.Deep.LoopGhost
import Derived.Lib.Walk
import Derived.Lib.SliceRun
import Derived.Lib.SlicesCompact
import Derived.Shelf.RegionOpenPlain
import Derived.Shelf.SlicesE.Compact
import Derived.Lib.AppendZerosOnto
import Derived.Laws.AppendOwnNone
namespace Go.Proofs.YtchhbnnpannnhaaGreatDoor
open Go.RowKit IntWalk
attribute [local go_sem] byte_at str_app

theorem rd_ne {w : World} {t : Pt} {g r k : Nat} {s : List UInt8} (hnd : Nd w t g) (hr : w.heap[r]? = some (rObj s k)) : g ≠ r := fun e => by
  subst e
  obtain ⟨_, _, _, _, h⟩ := hnd.head
  rw [hr] at h
  injection h with h
  injection h with h _ _
  have := congrArg Array.size h
  simp at this
theorem Nd.alloc {w : World} {t : Pt} {g : Nat} (h : Nd w t g) (o : Obj) : Nd (w.alloc o) t g := h.below ((Below.refl _ w).alloc (Nat.le_refl _) o)
theorem Nd.setS {w : World} {t : Pt} {g r k : Nat} {s : List UInt8} (h : Nd w t g) (hr : w.heap[r]? = some (rObj s k)) (v : Value) : Nd (w.setCell ⟨r, 0, none⟩ v) t g := h.fr hr ((Fr1.refl r w).set 0 v)
theorem stars_at (m : Pt) (s : List UInt8) (h : 0 < s.length) : stars m s = if bu s 0 = 42 then stars (addStar m) (s.drop 1) else (m, s) := by
  cases s with
  | nil => exact absurd h (by simp)
  | cons c s => rfl
theorem rowL_at (O : PRd) (f : Nat) (n : Pt) (s : List UInt8) (k : Nat) (h : 0 < s.length) : rowL O (f + 1) n s k = if bu s 0 = 124 ∨ bu s 0 = 41 then some (n, s, k) else
    match O s k with
    | none => none
    | some (m, s2, k2) => rowL O f (addRow n (stars m s2).1) (stars m s2).2 k2 := by
  cases s with
  | nil => exact absurd h (by simp)
  | cons c s => rfl
theorem eitL_at (R : PRd) (f : Nat) (n : Pt) (s : List UInt8) (k : Nat) (h : 0 < s.length) : eitL R (f + 1) n s k = if bu s 0 = 124 then
      match R (s.drop 1) k with
      | none => none
      | some (m, s2, k2) => eitL R f (.alt n m) s2 k2
    else some (n, s, k) := by
  cases s with
  | nil => exact absurd h (by simp)
  | cons c s => rfl

set_option maxRecDepth 100000 in
set_option maxHeartbeats 4000000 in
theorem row_walk (E : PRd) (n : Nat) (hO : ConOne (oneE E) n) (hK : Kb (oneE E)) (hS : Sh1 (oneE E)) : ConRow (rowE E) n := by
  intro s k r w hn hk hr
  obtain ⟨k0, k1, z0, z1⟩ := rd_cells hr
  have HX : Hid (rowE E s k = rowL (oneE E) (s.length + 1) .emp s k) := Lib.hid rfl
  have HRD := Lib.hid (rd_alloc hr (nObj 1 0 0 none none))
  have HN1 : Hid (Nd (w.alloc (nObj 1 0 0 none none)) .emp w.heap.size) := Lib.hid (nd_new rfl _)
  have HF1 := Lib.hid ((Fr1.refl r w).alloc (nObj 1 0 0 none none))
  have HO := Lib.hid (fun (s' : List UInt8) (k' : Nat) W => hO s' k' r W)
  have HKB := Lib.hid hK; have HSH := Lib.hid hS
  generalize rowE E s k = X at *
  generalize oneE E = O at *
  clear hr hO hK hS
  go_enter Tryz.func72, Tryz.ntmps72
  go_wp2_with fail
  go_loopg [4, 5, 6] s.length (fun f nv mv ov wr => ∃ (s' : List UInt8) (k' : Nat) (t : Pt) (g F : Nat), f = s'.length ∧ s'.length ≤ s.length ∧ k' + s'.length ≤ 100 ∧ s'.length < F ∧ nv = .pointer (bl g) ∧ Hid (Nd wr t g) ∧ wr.heap[r]? = some (rObj s' k') ∧ Hid (Fr1 r w wr) ∧ Hid (X = rowL O F t s' k'))
  case atStart => exact ⟨s, k, .emp, _, s.length + 1, rfl, Nat.le_refl _, hk, Nat.lt_succ_self _, rfl, HN1, HRD.out, HF1, HX⟩
  case round =>
    obtain ⟨s', k', t, g, F, rfl, hl, hkl, hF, rfl, HT, hr, HFR, HX2⟩ := hrel
    clear HX HN1 HF1 HRD
    obtain ⟨F, rfl⟩ : ∃ F', F = F' + 1 := ⟨F - 1, by omega⟩
    obtain ⟨k0, k1, z0, z1⟩ := rd_cells hr
    have HR := Lib.hid hr
    rcases Nat.eq_zero_or_pos s'.length with h0 | h0
    · obtain rfl := List.length_eq_zero_iff.1 h0
      have HX3 : Hid (X = some (t, [], k')) := Lib.hid (by rw [HX2.out]; rfl)
      clear hr HX2
      go_wp2_with fail
      go_ret2
      refine ⟨?_, HFR.out⟩
      rw [HX3.out]
      exact ⟨g, rfl, HT.out, HR.out⟩
    have he := isE_ne h0
    have p1 : (0 : Int) < (s'.length : Int) := by omega
    have HX3 := Lib.hid (HX2.out.trans (rowL_at O F t s' k' h0))
    generalize hb : bu s' 0 = c at *
    by_cases h124 : c = 124
    · have HX4 : Hid (X = some (t, s', k')) := Lib.hid (by rw [HX3.out, if_pos (.inl h124)])
      have q1 : (c.toNat : Int) = 124 := by rw [h124]; rfl
      have q2 : ((c.toNat : Int) != 124) = false := by rw [q1]; rfl
      have q3 : c.toNat = 124 := by omega
      clear hr HX2 HX3 h124
      go_wp2_with fail
      go_ret2
      refine ⟨?_, HFR.out⟩
      rw [HX4.out]
      exact ⟨g, rfl, HT.out, HR.out⟩
    by_cases h41 : c = 41
    · have HX4 : Hid (X = some (t, s', k')) := Lib.hid (by rw [HX3.out, if_pos (.inr h41)])
      have q1 : (c.toNat : Int) = 41 := by rw [h41]; rfl
      have q2 : ((c.toNat : Int) != 41) = false := by rw [q1]; rfl
      have q2' : ((c.toNat : Int) != 124) = true := by rw [q1]; rfl
      have q3 : c.toNat = 41 := by omega
      clear hr HX2 HX3 h124 h41
      go_wp2_with fail
      go_ret2
      refine ⟨?_, HFR.out⟩
      rw [HX4.out]
      exact ⟨g, rfl, HT.out, HR.out⟩
    have HX4 : Hid (X = match O s' k' with
      | none => none
      | some (m, s2, k2) => rowL O F (addRow t (stars m s2).1) (stars m s2).2 k2) := Lib.hid (by rw [HX3.out, if_neg (by intro h; rcases h with h | h; exact h124 h; exact h41 h)])
    have q1 : ¬ (c.toNat : Int) = 124 := fun e => h124 (UInt8.toNat_inj.1 (by show c.toNat = 124; omega))
    have q2 : ((c.toNat : Int) != 124) = true := by simpa using q1
    have q3 : ¬ (c.toNat : Int) = 41 := fun e => h41 (UInt8.toNat_inj.1 (by show c.toNat = 41; omega))
    have q4 : ((c.toNat : Int) != 41) = true := by simpa using q3
    have q5 : ¬ c.toNat = 124 := by omega
    have q6 : ¬ c.toNat = 41 := by omega
    clear HX2 HX3 h124 h41
    go_wp2_with fail
    refine (HO.out s' k' wr h0 (by omega) hkl hr).mono ?_
    rintro e w2 ⟨hsy, hfr⟩
    have HF2 := Lib.hid (HFR.out.trans hfr)
    have HT2 := Lib.hid (HT.out.fr hr hfr)
    clear hfr k0 k1 z0 z1 hr q1 q2 q3 q4 q5 q6 he p1 HFR HT HR
    cases hq : O s' k' with
    | none =>
      rw [hq] at hsy
      obtain ⟨⟨v, rfl⟩, s2, k2, hr2⟩ := hsy
      have HX5 : Hid (X = none) := Lib.hid (by rw [HX4.out, hq])
      have HR' := Lib.hid hr2
      clear hr2 HX4 hq
      go_wp2_with fail
      go_ret2
      refine ⟨?_, HF2.out⟩
      rw [HX5.out]
      exact ⟨⟨none, rfl⟩, s2, k2, HR'.out⟩
    | some p =>
      obtain ⟨m, s2, k2⟩ := p
      have hkb := HKB.out _ _ _ _ _ hq
      have hsh := HSH.out _ _ _ _ _ hq
      rw [hq] at hsy
      obtain ⟨gm, rfl, hm, hr2⟩ := hsy
      have HX5 : Hid (X = rowL O F (addRow t (stars m s2).1) (stars m s2).2 k2) := Lib.hid (by rw [HX4.out, hq])
      have HST : Hid (stars m s2 = stars m s2) := Lib.hid rfl
      have HSL := Lib.hid (stars_len s2 m)
      generalize hst : stars m s2 = Z at *
      have HZ := Lib.hid hst
      have HM := Lib.hid hm
      have HR2 := Lib.hid hr2
      clear hm hr2 hst HX4 hq
      go_wp2_with fail
      go_loopg [5] s2.length (fun f mv wr => ∃ (s3 : List UInt8) (m3 : Pt) (g3 : Nat), f = s3.length ∧ s3.length ≤ s2.length ∧ mv = .pointer (bl g3) ∧ Hid (Nd wr m3 g3) ∧ Hid (Nd wr t g) ∧ wr.heap[r]? = some (rObj s3 k2) ∧ Hid (Fr1 r w wr) ∧ Hid (stars m3 s3 = Z))
      case atStart => exact ⟨s2, m, gm, rfl, Nat.le_refl _, rfl, HM, HT2, HR2.out, HF2, HZ⟩
      case round =>
        obtain ⟨s3, m3, g3, rfl, hl3, rfl, HM3, HT3, hr3, HF3, HZ3⟩ := hrel
        clear HM HT2 HR2 HF2 HZ HST
        obtain ⟨k0, k1, z0, z1⟩ := rd_cells hr3
        have HR3 := Lib.hid hr3
        by_cases hgo : 0 < s3.length ∧ bu s3 0 = 42
        · obtain ⟨h3, h42⟩ := hgo
          have he := isE_ne h3
          have p1 : (0 : Int) < (s3.length : Int) := by omega
          have p2 : (1 : Int) ≤ (s3.length : Int) := by omega
          have hx := str_from s3 1
          have HZ4 := Lib.hid ((stars_at m3 s3 h3).symm.trans HZ3.out)
          rw [if_pos h42] at HZ4
          have hdl : (s3.drop 1).length = s3.length - 1 := by simp
          generalize s3.drop 1 = d at *
          have q1 : ((bu s3 0).toNat : Int) = 42 := by rw [h42]; rfl
          have q2 : (bu s3 0).toNat = 42 := by omega
          have HRd := Lib.hid (rd_s hr3 d)
          have HMd := Lib.hid (HM3.out.setS hr3 (S d))
          have HTd := Lib.hid (HT3.out.setS hr3 (S d))
          have HFd := Lib.hid (HF3.out.set 0 (S d))
          have hgr := rd_ne HM3.out hr3
          have hgm := HM3.out.lt
          have hkc : (wr.setCell ⟨r, 0, none⟩ (S d)).cell? ⟨g3, 0, none⟩ = some (.int .i64 (kd m3)) := HMd.out.kind
          clear h42
          by_cases h5 : kd m3 = 5
          · rw [kd_str h5] at HZ4
            have q7 : (kd m3 == 5) = true := by simpa using h5
            rw [h5] at hkc
            clear hr3 q7
            go_wp2_with fail
            go_roundg d.length
            case measure => omega
            case rel => exact ⟨d, m3, g3, rfl, by omega, rfl, HMd, HTd, HRd.out, HFd, HZ4⟩
          · rw [addStar_of h5] at HZ4
            have q7 : (kd m3 == 5) = false := by simpa using h5
            have q8 : (kd m3 != 5) = true := by simpa using h5
            clear hr3
            generalize kd m3 = K at *
            go_wp2_with fail
            go_roundg d.length
            case measure => omega
            case rel => exact ⟨d, .str m3, _, rfl, by omega, rfl, Lib.hid ⟨g3, nd_new (by rw [sz_set]) _, HMd.out.alloc _⟩, Lib.hid (HTd.out.alloc _), rd_alloc HRd.out _, Lib.hid (HFd.out.alloc _), HZ4⟩
        · have hs0 : stars m3 s3 = (m3, s3) := by
            rcases Nat.eq_zero_or_pos s3.length with h | h
            · obtain rfl := List.length_eq_zero_iff.1 h
              rfl
            · rw [stars_at m3 s3 h, if_neg (fun e => hgo ⟨h, e⟩)]
          have HX6 : Hid (X = rowL O F (addRow t m3) s3 k2) := Lib.hid (by rw [HX5.out, ← HZ3.out, hs0])
          have hkc : wr.cell? ⟨g, 0, none⟩ = some (.int .i64 (kd t)) := HT3.out.kind
          have hgt := HT3.out.lt
          clear HX5 HZ3 hs0
          have fin : ∀ (w5 : World), True := fun _ => trivial
          clear fin
          by_cases h1 : kd t = 1
          · obtain rfl := kd_emp h1
            have HX7 : Hid (X = rowL O F m3 s3 k2) := HX6
            rw [h1] at hkc
            clear HX6 h1 hr3
            rcases Nat.eq_zero_or_pos s3.length with h | h
            · obtain rfl := List.length_eq_zero_iff.1 h
              clear hgo
              go_wp2_with fail
              go_roundg 0
              case measure => omega
              case rel => exact ⟨[], k2, m3, g3, F, rfl, by simp, by simp at hkb ⊢; omega, by simp at hl3 ⊢; omega, rfl, HM3, HR3.out, HF3, HX7⟩
            · have he := isE_ne h
              have p1 : (0 : Int) < (s3.length : Int) := by omega
              have h42 : ¬ bu s3 0 = 42 := fun e => hgo ⟨h, e⟩
              have q1 : ¬ ((bu s3 0).toNat : Int) = 42 := fun e => h42 (UInt8.toNat_inj.1 (by show (bu s3 0).toNat = 42; omega))
              have q2 : ¬ (bu s3 0).toNat = 42 := by omega
              have q3 : (((bu s3 0).toNat : Int) == 42) = false := by simpa using q1
              clear hgo h42
              go_wp2_with fail
              go_roundg s3.length
              case measure => omega
              case rel => exact ⟨s3, k2, m3, g3, F, rfl, by omega, by omega, by omega, rfl, HM3, HR3.out, HF3, HX7⟩
          · rw [addRow_of m3 h1] at HX6
            have q8 : (kd t == 1) = false := by simpa using h1
            clear hr3
            generalize kd t = K at *
            have HN5 : Hid (∀ W : World, Nd W t g → Nd W m3 g3 → Nd (W.alloc (nObj 4 0 0 (bl g) (bl g3))) (.seq t m3) W.heap.size) := Lib.hid fun W a b => ⟨g, g3, nd_new rfl _, a.alloc _, b.alloc _⟩
            rcases Nat.eq_zero_or_pos s3.length with h | h
            · obtain rfl := List.length_eq_zero_iff.1 h
              clear hgo
              go_wp2_with fail
              go_roundg 0
              case measure => omega
              case rel => exact ⟨[], k2, .seq t m3, _, F, rfl, by simp, by simp at hkb ⊢; omega, by simp at hl3 ⊢; omega, rfl, Lib.hid (HN5.out _ HT3.out HM3.out), rd_alloc HR3.out _, Lib.hid (HF3.out.alloc _), HX6⟩
            · have he := isE_ne h
              have p1 : (0 : Int) < (s3.length : Int) := by omega
              have h42 : ¬ bu s3 0 = 42 := fun e => hgo ⟨h, e⟩
              have q1 : ¬ ((bu s3 0).toNat : Int) = 42 := fun e => h42 (UInt8.toNat_inj.1 (by show (bu s3 0).toNat = 42; omega))
              have q2 : ¬ (bu s3 0).toNat = 42 := by omega
              have q3 : (((bu s3 0).toNat : Int) == 42) = false := by simpa using q1
              clear hgo h42
              go_wp2_with fail
              go_roundg s3.length
              case measure => omega
              case rel => exact ⟨s3, k2, .seq t m3, _, F, rfl, by omega, by omega, by omega, rfl, Lib.hid (HN5.out _ HT3.out HM3.out), rd_alloc HR3.out _, Lib.hid (HF3.out.alloc _), HX6⟩
set_option maxRecDepth 100000 in
set_option maxHeartbeats 4000000 in
theorem either_walk (E : PRd) (n : Nat) (hR : ConRow (rowE E) n) (hK : Kb (rowE E)) (hS : Sh (rowE E)) : ConEit (eitE E) n := by
  intro s k r w hn hk hr
  have HX : Hid (eitE E s k = match rowE E s k with
    | none => none
    | some (n, s2, k2) => eitL (rowE E) (s2.length + 1) n s2 k2) := Lib.hid rfl
  have HR := Lib.hid (fun (s' : List UInt8) (k' : Nat) W => hR s' k' r W)
  have HKB := Lib.hid hK; have HSH := Lib.hid hS
  generalize eitE E s k = X at *
  generalize rowE E = R at *
  clear hR hK hS
  go_enter Tryz.func59, Tryz.ntmps59
  go_wp2_with fail
  refine (HR.out s k w hn hk hr).mono ?_
  rintro e w1 ⟨hsy, hfr⟩
  have HF1 := Lib.hid hfr
  clear hfr hr
  cases hq : R s k with
  | none =>
    rw [hq] at hsy
    obtain ⟨⟨v, rfl⟩, s2, k2, hr2⟩ := hsy
    have HX1 : Hid (X = none) := Lib.hid (by rw [HX.out, hq])
    have HR' := Lib.hid hr2
    clear hr2 HX hq
    go_wp2_with fail
    go_loopg [4, 5, 6] 0 (fun f nv ov mv wr => f = 0 ∧ nv = .pointer v ∧ ov = .bool false ∧ wr = w1)
    case atStart => exact ⟨rfl, rfl, rfl, rfl⟩
    case round =>
      obtain ⟨rfl, rfl, rfl, rfl⟩ := hrel
      go_wp2_with fail
      go_ret2
      refine ⟨?_, HF1.out⟩
      rw [HX1.out]
      exact ⟨⟨v, rfl⟩, s2, k2, HR'.out⟩
  | some p =>
    obtain ⟨t, s2, k2⟩ := p
    have hkb := HKB.out _ _ _ _ _ hq
    have hsh := HSH.out _ _ _ _ _ hq
    rw [hq] at hsy
    obtain ⟨g, rfl, hm, hr2⟩ := hsy
    have HX1 : Hid (X = eitL R (s2.length + 1) t s2 k2) := Lib.hid (by rw [HX.out, hq])
    have HM := Lib.hid hm
    have HR2 := Lib.hid hr2
    clear hm hr2 HX hq
    go_wp2_with fail
    go_loopg [4, 5, 6] (s2.length + 1) (fun f nv ov mv wr => Hid (Fr1 r w wr) ∧ ((∃ (s' : List UInt8) (k' : Nat) (t : Pt) (g F : Nat), f = s'.length + 1 ∧ s'.length ≤ s.length ∧ k' + s'.length ≤ 100 ∧ s'.length < F ∧ nv = .pointer (bl g) ∧ ov = .bool true ∧ Hid (Nd wr t g) ∧ wr.heap[r]? = some (rObj s' k') ∧ Hid (X = eitL R F t s' k')) ∨ (f = 0 ∧ (∃ v, nv = .pointer v) ∧ ov = .bool false ∧ (∃ s' k', Hid (wr.heap[r]? = some (rObj s' k'))) ∧ Hid (X = none))))
    case atStart => exact ⟨HF1, .inl ⟨s2, k2, t, g, s2.length + 1, rfl, by omega, by omega, Nat.lt_succ_self _, rfl, rfl, HM, HR2.out, HX1⟩⟩
    case round =>
      obtain ⟨HF2, ⟨s', k', t', g', F, rfl, hl, hkl, hF, rfl, rfl, HT, hr, HX2⟩ | ⟨rfl, ⟨v, rfl⟩, rfl, ⟨s', k', HR3⟩, HX2⟩⟩ := hrel
      rotate_left
      · clear HF1 HX1 HM HR2
        go_wp2_with fail
        go_ret2
        refine ⟨?_, HF2.out⟩
        rw [HX2.out]
        exact ⟨⟨v, rfl⟩, s', k', HR3.out⟩
      clear HX1 HM HF1 HR2
      obtain ⟨F, rfl⟩ : ∃ F', F = F' + 1 := ⟨F - 1, by omega⟩
      obtain ⟨k0, k1, z0, z1⟩ := rd_cells hr
      have HRr := Lib.hid hr
      rcases Nat.eq_zero_or_pos s'.length with h0 | h0
      · obtain rfl := List.length_eq_zero_iff.1 h0
        have HX3 : Hid (X = some (t', [], k')) := Lib.hid (by rw [HX2.out]; rfl)
        clear hr HX2
        go_wp2_with fail
        go_ret2
        refine ⟨?_, HF2.out⟩
        rw [HX3.out]
        exact ⟨g', rfl, HT.out, HRr.out⟩
      have he := isE_ne h0
      have p1 : (0 : Int) < (s'.length : Int) := by omega
      have p2 : (1 : Int) ≤ (s'.length : Int) := by omega
      have HX3 := Lib.hid (HX2.out.trans (eitL_at R F t' s' k' h0))
      by_cases h124 : bu s' 0 = 124
      rotate_left
      · have HX4 : Hid (X = some (t', s', k')) := Lib.hid (by rw [HX3.out, if_neg h124])
        have q1 : ¬ ((bu s' 0).toNat : Int) = 124 := fun e => h124 (UInt8.toNat_inj.1 (by show (bu s' 0).toNat = 124; omega))
        have q2 : (((bu s' 0).toNat : Int) == 124) = false := by simpa using q1
        have q3 : ¬ (bu s' 0).toNat = 124 := by omega
        clear hr HX2 HX3 h124
        go_wp2_with fail
        go_ret2
        refine ⟨?_, HF2.out⟩
        rw [HX4.out]
        exact ⟨g', rfl, HT.out, HRr.out⟩
      have hx := str_from s' 1
      have hdl : (s'.drop 1).length = s'.length - 1 := by simp
      have HX4 : Hid (X = match R (s'.drop 1) k' with
        | none => none
        | some (m, s2, k2) => eitL R F (.alt t' m) s2 k2) := Lib.hid (by rw [HX3.out, if_pos h124])
      have q1 : ((bu s' 0).toNat : Int) = 124 := by rw [h124]; rfl
      have q3 : (bu s' 0).toNat = 124 := by omega
      generalize s'.drop 1 = d at *
      have HRd := Lib.hid (rd_s hr d)
      have HTd := Lib.hid (HT.out.setS hr (S d))
      have HFd := Lib.hid (HF2.out.set 0 (S d))
      clear HX2 HX3 h124
      go_wp2_with fail
      refine (HR.out d k' _ (by omega) (by omega) HRd.out).mono ?_
      rintro e w2 ⟨hsy, hfr⟩
      have HF3 := Lib.hid (HFd.out.trans hfr)
      have HT3 := Lib.hid (HTd.out.fr HRd.out hfr)
      clear hfr k0 k1 z0 z1 hr q1 q3 he p1 p2 HF2 HT HRr hx HRd HTd HFd
      cases hq : R d k' with
      | none =>
        rw [hq] at hsy
        obtain ⟨⟨v, rfl⟩, s3, k3, hr3⟩ := hsy
        have HX5 : Hid (X = none) := Lib.hid (by rw [HX4.out, hq])
        have HR' := Lib.hid (rd_alloc hr3 (nObj 3 0 0 (bl g') v))
        clear hr3 HX4 hq
        go_wp2_with fail
        go_roundg 0
        case measure => omega
        case rel => exact ⟨Lib.hid (HF3.out.alloc _), .inr ⟨rfl, ⟨_, rfl⟩, rfl, ⟨s3, k3, HR'⟩, HX5⟩⟩
      | some p =>
        obtain ⟨m, s3, k3⟩ := p
        have hkb3 := HKB.out _ _ _ _ _ hq
        have hsh3 := HSH.out _ _ _ _ _ hq
        rw [hq] at hsy
        obtain ⟨gm, rfl, hm, hr3⟩ := hsy
        have HX5 : Hid (X = eitL R F (.alt t' m) s3 k3) := Lib.hid (by rw [HX4.out, hq])
        have HR' := Lib.hid (rd_alloc hr3 (nObj 3 0 0 (bl g') (bl gm)))
        have HN5 : Hid (Nd (w2.alloc (nObj 3 0 0 (bl g') (bl gm))) (.alt t' m) w2.heap.size) := Lib.hid ⟨g', gm, nd_new rfl _, HT3.out.alloc _, hm.alloc _⟩
        clear hr3 hm HX4 hq
        go_wp2_with fail
        go_roundg (s3.length + 1)
        case measure => omega
        case rel => exact ⟨Lib.hid (HF3.out.alloc _), .inl ⟨s3, k3, .alt t' m, _, F, rfl, by omega, by omega, by omega, rfl, rfl, HN5, HR'.out, HX5⟩⟩
theorem con_all : ∀ n, ConEit (parE (n + 1)) n
  | 0 => either_walk _ 0 (row_walk _ 0 (fun s k r w h0 hn _ _ => by omega) ((lv_par 0).one (hd_par 0)).kb (sh_par 0).one) ((lv_par 0).row (hd_par 0)).kb (sh_par 0).row
  | n + 1 => either_walk _ (n + 1) (row_walk _ (n + 1) (one_walk _ n (con_all n) (lv_par (n + 1)).kb) ((lv_par (n + 1)).one (hd_par (n + 1))).kb (sh_par (n + 1)).one) ((lv_par (n + 1)).row (hd_par (n + 1))).kb (sh_par (n + 1)).row
/-- What Parse answers: 4, 2, or a tree. -/
def parsE (s : List UInt8) : Int := if 12 < s.length then 4 else match par s with
  | none => 2
  | some _ => 0
set_option maxRecDepth 100000 in
set_option maxHeartbeats 2000000 in
theorem parse_any (s : List UInt8) (w : World) (h9 : s.length ≤ 9223372036854775807) :
    Calls Tryz.prog 43 #[S s] w fun e w' => ((parsE s ≠ 0 ∧ e = .returned (.tuple #[.pointer none, errV (parsE s)])) ∨ ∃ t g, parsE s = 0 ∧ s.length ≤ 12 ∧ par s = some t ∧ e = .returned (.tuple #[.pointer (bl g), .nilIface]) ∧ Nd w' t g) ∧ Below w.heap.size w w' := by
  by_cases h12 : 12 < s.length
  · have HP : Hid (parsE s = 4) := Lib.hid (if_pos h12)
    generalize parsE s = X at *
    obtain rfl := HP.out
    go_enter Tryz.func43, Tryz.ntmps43
    go_wp2_with fail
    refine (long1_yes 12 s _ _ _ ?_ (by omega)).mono ?_
    · simp [World.cell?_alloc_new]
    rintro e w' ⟨rfl, rfl⟩
    go_wp2_with fail
    go_ret2
    exact ⟨.inl ⟨by decide, rfl⟩, (Below.refl _ _).alloc (Nat.le_refl _) _⟩
  have HP : Hid (parsE s = match par s with
    | none => 2
    | some _ => 0) := Lib.hid (if_neg h12)
  have HPR : Hid (par s = match parE (s.length + 1) s 0 with
    | some (t, [], _) => some t
    | _ => none) := Lib.hid rfl
  have HC := Lib.hid (fun W (r : Nat) => con_all s.length s 0 r W (Nat.le_refl _) (by omega))
  have h12' : s.length ≤ 12 := by omega
  generalize parsE s = X at *
  generalize par s = Y at *
  generalize parE (s.length + 1) s 0 = Z at *
  go_enter Tryz.func43, Tryz.ntmps43
  go_wp2_with fail
  refine (long1_no 12 s _ _ _ ?_ (by omega)).mono ?_
  · simp [World.cell?_alloc_new]
  rintro e w' ⟨rfl, rfl⟩
  have HB := Lib.hid (((Below.refl w.heap.size w).alloc (Nat.le_refl _) (.cells #[S s] 9)).alloc (by simp) (rObj s 0))
  have HR : Hid (((w.alloc (.cells #[S s] 9)).alloc (rObj s 0)).heap[w.heap.size + 1]? = some (rObj s 0)) := Lib.hid (nd_new (by simp) _)
  go_wp2_with fail
  refine (HC.out _ (w.heap.size + 1) HR.out).mono ?_
  rintro e w2 ⟨hsy, hfr⟩
  have HB2 := Lib.hid (HB.out.trans (hfr.below (B := w.heap.size) (by omega) (by simp; omega)))
  clear hfr HC HR HB
  match Z, hsy, HPR with
  | none, hsy, HPR =>
    obtain ⟨⟨v, rfl⟩, s2, k2, hr2⟩ := hsy
    have HY := HPR.out
    simp only [] at HY
    have HX0 := HP.out
    rw [HY] at HX0
    simp only [] at HX0
    have HX := Lib.hid HX0; have HYh := Lib.hid HY
    clear HY HX0 HP HPR
    clear hr2
    go_wp2_with fail
    go_ret2
    exact ⟨.inl ⟨by rw [HX.out]; decide, by rw [HX.out]; rfl⟩, HB2.out⟩
  | some (t, [], k2), hsy, HPR =>
    obtain ⟨g, rfl, hm, hr2⟩ := hsy
    have HY := HPR.out
    simp only [] at HY
    have HX0 := HP.out
    rw [HY] at HX0
    simp only [] at HX0
    have HX := Lib.hid HX0; have HYh := Lib.hid HY
    clear HY HX0 HP HPR
    obtain ⟨k0, _, _, _⟩ := rd_cells hr2
    have HM := Lib.hid hm
    clear hr2 hm
    go_wp2_with fail
    go_ret2
    exact ⟨.inr ⟨t, g, HX.out, h12', HYh.out, rfl, HM.out⟩, HB2.out⟩
  | some (t, c :: s2, k2), hsy, HPR =>
    obtain ⟨g, rfl, hm, hr2⟩ := hsy
    have HY := HPR.out
    simp only [] at HY
    have HX0 := HP.out
    rw [HY] at HX0
    simp only [] at HX0
    have HX := Lib.hid HX0; have HYh := Lib.hid HY
    clear HY HX0 HP HPR
    obtain ⟨k0, _, _, _⟩ := rd_cells hr2
    have hne := isE_ne (s := c :: s2) (by simp)
    generalize c :: s2 = s3 at *
    clear hr2 hm
    go_wp2_with fail
    go_ret2
    exact ⟨.inl ⟨by rw [HX.out]; decide, by rw [HX.out]; rfl⟩, HB2.out⟩
end Go.Proofs.YtchhbnnpannnhaaGreatDoor

namespace Go.Proofs.YtchhbnnpannnhaaGreatDoor
open Go.RowKit Go.Lib Go.Sort IntWalk

abbrev encB : UInt8 → Value := fun c => .int .u8 (c.toNat : Int)
def ltB (x y : UInt8) : Bool := decide (x.toNat < y.toNat)
theorem swoB : SWO ltB where
  irrefl x := by unfold ltB; simp
  trans x y z h1 h2 := by unfold ltB at *; simp at *; omega
  ntrans x y z h1 h2 := by unfold ltB at *; simp at *; omega
set_option maxHeartbeats 400000 in
theorem isnan_any (x : UInt8) (w : World) : Calls Tryz.prog 109 #[encB x] w fun e w' => e = .returned (.bool false) ∧ w' = w := by
  go_enter Tryz.func109, Tryz.ntmps109
  go_wp2
  go_ret
  exact ⟨rfl, rfl⟩
set_option maxHeartbeats 400000 in
theorem less_any (x y : UInt8) (w : World) : Calls Tryz.prog 96 #[encB x, encB y] w fun e w' => e = .returned (.bool (ltB x y)) ∧ w' = w := by
  have HL : Hid (ltB x y = decide (x.toNat < y.toNat)) := Lib.hid rfl
  generalize ltB x y = b at *
  have h1 := isnan_any x w
  have h2 := isnan_any y w
  go_enter Tryz.func96, Tryz.ntmps96
  go_wp2_with fail
  refine h1.mono ?_
  rintro e w' ⟨rfl, rfl⟩
  go_wp2_with fail
  go_ret
  exact ⟨by rw [HL.out]; rfl, rfl⟩
set_option maxRecDepth 100000 in
set_option maxHeartbeats 4000000 in
theorem insSort_any (blk off cap a b : Nat) (d : Array UInt8) (w : World) (hH : Holds encB w blk off d) (hab : a ≤ b) (hb : b ≤ d.size) (hsz : d.size < 4611686018427387904) :
    Calls Tryz.prog 90 #[.slice (some ⟨blk, off, none⟩) d.size cap, .int .i64 a, .int .i64 b] w fun e w' =>
      e = .returned (.tuple #[]) ∧ ∃ n, w' = putRow encB (Sort.ahead w n) blk off (Sort.insertionSort ltB d a b) := by
  go_enter Tryz.func90, Tryz.ntmps90
  go_wp2
  go_loopw [6] (fun vi wr => ∃ (i n : Nat) (dk : Array UInt8), vi = .int .i64 i ∧ a < i ∧ i ≤ b + 1 ∧ dk.size = d.size ∧ wr = putRow encB (Sort.ahead w n) blk off dk ∧
      insOuter ltB a b i dk = insOuter ltB a b (a + 1) d) (fun vi _ => b + 1 - (intOf vi).toNat)
  case atStart => exact ⟨a + 1, 0, d, by go_num, by omega, by omega, rfl, (putRow_self _ _ _ _ _ hH).symm, rfl⟩
  case round =>
    obtain ⟨i, n, dk, rfl, hai, hib, hsk, hwr, hO⟩ := hrel
    have HO : Hid (insOuter ltB a b i dk = insOuter ltB a b (a + 1) d) := hO
    clear hO
    go_wp2
    · go_loopw [7] (fun vj wr2 => ∃ (j m : Nat) (dj : Array UInt8), vj = .int .i64 j ∧ a ≤ j ∧ j ≤ i ∧ dj.size = d.size ∧ wr2 = putRow encB (Sort.ahead w m) blk off dj ∧
          insInner ltB a j dj = insInner ltB a i dk) (fun vj _ => (intOf vj).toNat)
      case atStart => exact ⟨i, n, dk, rfl, by omega, Nat.le_refl _, hsk, rfl, rfl⟩
      case round =>
        obtain ⟨j, m, dj, rfl, haj, hji, hsj, hw2, hI⟩ := hrel
        have hlt : i < b := by assumption
        obtain ⟨G, hG⟩ : ∃ G : Nat → UInt8, ∀ t, G t = dj[t]! := ⟨fun t => dj[t]!, fun _ => rfl⟩
        have hcw : ∀ t, t < d.size → wr.cell? ⟨blk, off + t, none⟩ = some (.int .u8 ((G t).toNat : Int)) := fun t ht => by
          rw [hw2, hG]; exact cell?_putRow _ _ _ _ d dj (holds_ahead _ _ _ _ _ _ hH) hsj t (by omega)
        have hfw : ∀ t, t < d.size → wr.frozen? ⟨blk, off + t, none⟩ = false := fun t ht => by
          rw [hw2, frozen?_putRow]; exact ((holds_ahead _ _ m _ _ _ hH) t ht).2
        have HW : Hid (wr = putRow encB (Sort.ahead w m) blk off dj) := hw2
        have HG : Hid (∀ t, G t = dj[t]!) := hG
        have HI : Hid (insInner ltB a j dj = insInner ltB a i dk) := hI
        clear hw2 hG hI hH
        have out : (j ≤ a ∨ ltB dj[j]! dj[j - 1]! = false) → ∀ q, ∃ i' n' dk', Value.int .i64 ((i : Int) + 1) = .int .i64 (i' : Nat) ∧ a < i' ∧ i' ≤ b + 1 ∧ dk'.size = d.size ∧
            wr.drewN q = putRow encB (Sort.ahead w n') blk off dk' ∧ insOuter ltB a b i' dk' = insOuter ltB a b (a + 1) d := fun hs q =>
          ⟨i + 1, m + q, dj, by go_num, by omega, by omega, hsj, by rw [HW.out]; exact putRow_drewN _ _ _ _ _ _ _,
            by rw [← HO.out, insOuter_go _ _ _ _ _ hlt, ← HI.out, insInner_stop _ _ _ _ hs]⟩
        have OUT : Hid _ := out
        clear out
        go_wp2
        by_cases hja : a < j
        · go_quiet (first | (go_at_call 96; refine Calls.quiet_of_same (less_any _ _ _)))
          go_wp2
          · have hl : ltB (G j) (G (j - 1)) = true := by assumption
            go_region
            all_goals go_wp2
            go_roundw
            case rel =>
              refine ⟨j - 1, m + (nq + 1), swp dj j (j - 1), by congr 1; omega, by omega, by omega, by rw [size_swp]; exact hsj, ?_, ?_⟩
              · rw [HW.out, HG.out, HG.out]
                exact swap_worldA _ w m (nq + 1) blk off dj j (j - 1) (by omega) (by omega)
              · rw [← HI.out, insInner_go ltB a j dj hja (by rw [← HG.out, ← HG.out]; exact hl)]
            case measure => simp [intOf]; omega
          · have hl : ltB (G j) (G (j - 1)) = false := by assumption
            go_roundw
            case rel => exact OUT.out (Or.inr (by rw [← HG.out, ← HG.out]; exact hl)) nq
            case measure => simp [intOf]; omega
        · go_quiet (first | (go_at_call 96; refine Calls.quiet_of_same (less_any _ _ _)))
          go_wp2
          go_roundw
          case rel => exact OUT.out (Or.inl (by omega)) nq
          case measure => simp [intOf]; omega
    · have hge : ¬ i < b := by assumption
      go_end0
      exact ⟨rfl, n, by unfold Sort.insertionSort; rw [← HO.out, insOuter_stop _ _ _ _ _ hge]⟩
set_option maxRecDepth 100000 in
set_option maxHeartbeats 1000000 in
theorem len64_any (n : Nat) (hn : n ≤ 12) (w : World) : Calls Tryz.prog 87 #[.int .u64 (n : Int)] w fun e w' => (∃ k, e = .returned (.int .i64 k)) ∧ w' = w := by
  have p1 : ¬ (4294967296 : Int) ≤ (n : Int) := by omega
  have p2 : ¬ (65536 : Int) ≤ (n : Int) := by omega
  have p3 : ¬ (256 : Int) ≤ (n : Int) := by omega
  have p4 : IntKind.u8.wrap (n : Int) = (n : Int) := by unfold IntKind.wrap; simp [IntKind.bits]; omega
  have p5 : (0 : Int) ≤ (n : Int) := by omega
  have p6 : (n : Int) < 256 := by omega
  have p7 : n < 256 := by omega
  go_enter Tryz.func87, Tryz.ntmps87
  go_wp2_with fail
  go_ret
  exact ⟨⟨_, rfl⟩, rfl⟩
set_option maxHeartbeats 400000 in
theorem len_any (n : Nat) (hn : n ≤ 12) (w : World) : Calls Tryz.prog 66 #[.int .u64 (n : Int)] w fun e w' => (∃ k, e = .returned (.int .i64 k)) ∧ w' = w := by
  have h1 := len64_any n hn w
  go_enter Tryz.func66, Tryz.ntmps66
  go_wp2_with fail
  refine h1.mono ?_
  rintro e w' ⟨⟨k, rfl⟩, rfl⟩
  go_wp2_with fail
  go_ret
  exact ⟨⟨k, rfl⟩, rfl⟩
set_option maxRecDepth 100000 in
set_option maxHeartbeats 1000000 in
theorem pdq_any (blk off cap : Nat) (k : Int) (d : Array UInt8) (w : World) (hH : Holds encB w blk off d) (h12 : d.size ≤ 12) :
    Calls Tryz.prog 73 #[.slice (some ⟨blk, off, none⟩) d.size cap, .int .i64 0, .int .i64 d.size, .int .i64 k] w fun e w' =>
      e = .returned (.tuple #[]) ∧ ∃ n, w' = putRow encB (Sort.ahead w n) blk off (Sort.insertionSort ltB d 0 d.size) := by
  have h1 := insSort_any blk off cap 0 d.size d w hH (Nat.zero_le _) (Nat.le_refl _) (by omega)
  have p1 : IntKind.i64.wrap ((d.size : Int) - 0) = (d.size : Int) := by rw [i64_in _ (by omega)]; omega
  have p1' : IntKind.i64.wrap (d.size : Int) = (d.size : Int) := i64_in _ (by omega)
  have p2 : (d.size : Int) ≤ 12 := by omega
  clear hH
  go_enter Tryz.func73, Tryz.ntmps73
  go_wp2_with fail
  refine wp_loop_rounds 1 ?_
  rw [rounds_succ]
  go_wp2_with fail
  refine h1.mono ?_
  rintro e w' ⟨rfl, n, rfl⟩
  go_wp2_with fail
  refine bodyPost_ret (results_none rfl _ _ _) rfl ?_
  exact ⟨rfl, n, rfl⟩
set_option maxHeartbeats 1000000 in
theorem sort_any (blk off cap : Nat) (d : Array UInt8) (w : World) (hH : Holds encB w blk off d) (h12 : d.size ≤ 12) :
    Calls Tryz.prog 60 #[.slice (some ⟨blk, off, none⟩) d.size cap] w fun e w' =>
      e = .returned (.tuple #[]) ∧ ∃ n, w' = putRow encB (Sort.ahead w n) blk off (Sort.insertionSort ltB d 0 d.size) := by
  have h1 := len_any d.size h12 w
  have h2 := fun k => pdq_any blk off cap k d w hH h12
  have p1 : IntKind.u64.wrap (d.size : Int) = (d.size : Int) := by unfold IntKind.wrap; simp [IntKind.bits]; omega
  clear hH
  go_enter Tryz.func60, Tryz.ntmps60
  go_wp2_with fail
  refine h1.mono ?_
  rintro e w' ⟨⟨k, rfl⟩, rfl⟩
  go_wp2_with fail
  refine (h2 k).mono ?_
  rintro e w' ⟨rfl, n, rfl⟩
  go_wp2_with fail
  go_end0
  exact ⟨rfl, n, rfl⟩
theorem same_dec (x y : UInt8) : ((x.toNat : Int) == (y.toNat : Int)) = decide (x = y) := by
  by_cases h : x = y
  · subst h; simp
  · have : ¬ x.toNat = y.toNat := fun e => h (UInt8.toNat_inj.1 e)
    simp [h]; omega
theorem oneB : OneCell encB := fun _ => rfl
set_option maxHeartbeats 4000000 in
set_option maxRecDepth 1000000 in
theorem compact_any (blk off cap : Nat) (d : Array UInt8) (w : World) (hH : Holds encB w blk off d) (hsz : d.size ≤ 9223372036854775807) (hcap : d.size ≤ cap) :
    Calls Tryz.prog 61 #[.slice (some ⟨blk, off, none⟩) d.size cap] w fun e w' => e = .returned (.slice (some ⟨blk, off, none⟩) (compactUpTo d d.size).length cap) ∧ ∃ q, w' = putRow encB (Sort.ahead w q) blk off (compactUpTo d d.size ++ List.replicate (d.size - (compactUpTo d d.size).length) 0).toArray := by
  have hO := oneB
  have v23 : ∀ w, (zeroValue 5).run Tryz.prog w = .ok (encB 0) w := fun w => by kernel_rfl
  have same : ∀ q, (∀ j, j < d.size → keeps d j = true) → (compactUpTo d d.size).length = d.size ∧ w.drewN q = putRow encB (Sort.ahead w q) blk off (compactUpTo d d.size ++ List.replicate (d.size - (compactUpTo d d.size).length) 0).toArray := by
    intro q hall
    have e : compactUpTo d d.size = d.toList := by rw [compactUpTo_all d _ hall, range_map_get]
    rw [e]
    refine ⟨by simp, ?_⟩
    simp only [Array.length_toList, Nat.sub_self, List.replicate_zero, List.append_nil, Array.toArray_toList]
    exact (putRow_self encB (Sort.ahead w q) blk off d (holds_ahead encB w q blk off d hH)).symm
  have HS : Aside (∀ q, (∀ j, j < d.size → keeps d j = true) → (compactUpTo d d.size).length = d.size ∧ w.drewN q = putRow encB (Sort.ahead w q) blk off (compactUpTo d d.size ++ List.replicate (d.size - (compactUpTo d d.size).length) 0).toArray) := same
  clear same
  by_cases h2 : d.size < 2
  · have HH : Aside (Holds encB w blk off d) := hH
    clear hH
    go_enter Tryz.func61, Tryz.ntmps61
    go_wp2
    go_ret
    obtain ⟨e1, e2⟩ := HS.out 0 (fun j hj => keeps_lt_one d j (by omega))
    exact ⟨by rw [e1]; rfl, 0, e2⟩
  · go_enter Tryz.func61, Tryz.ntmps61
    go_wp2
    go_loopg [3] d.size (fun g s3 wr => ∃ k q : Nat, 1 ≤ k ∧ k ≤ d.size ∧ d.size - k ≤ g ∧ s3 = .int .i64 k ∧ wr = w.drewN q ∧ ∀ j, j < k → keeps d j = true)
    case atStart => exact ⟨1, 0, Nat.le_refl _, by omega, by omega, rfl, rfl, keeps_lt_one d⟩
    case round =>
      obtain ⟨k, q, hk1, hk, hg, rfl, rfl, hall⟩ := hrel
      by_cases hlt : k < d.size
      · obtain ⟨c1, f1⟩ := hH k hlt
        obtain ⟨c0, f0⟩ := hH (k - 1) (by omega)
        have A : Aside (∀ j, j < k → keeps d j = true) := hall
        have HH : Aside (Holds encB w blk off d) := hH
        clear hall hH
        generalize hx : d[k]! = x at c1
        generalize hy : d[k - 1]! = y at c0
        have B : Aside (d[k]! = x ∧ d[k - 1]! = y) := ⟨hx, hy⟩
        clear hx hy
        obtain ⟨k0, rfl⟩ : ∃ k0, k = k0 + 1 := ⟨k - 1, by omega⟩
        rw [Nat.add_sub_cancel] at c0 f0
        have w1 : IntKind.i64.wrap (((k0 + 1 : Nat) : Int) - 1) = (k0 : Int) := by rw [i64_in _ (by omega)]; omega
        have w2 : (k0 : Int) < (d.size : Int) := by omega
        have w3 : ((k0 + 1 : Nat) : Int) < (d.size : Int) := by omega
        have w4 : (0 : Int) ≤ (k0 : Int) := by omega
        have w5 : IntKind.i64.wrap ((k0 : Int) + 1 - 1) = (k0 : Int) := by rw [i64_in _ (by omega)]; omega
        by_cases hdup : x = y
        · subst hdup
          go_wp2_with fail
          go_region
          all_goals go_wp2_with fail
          clear c0 c1 f0 f1
          go_loopg [3, 5] d.size (fun g s3 s5 wr => ∃ (kk k2 q2 : Nat) (dk : Array UInt8), s3 = .int .i64 kk ∧ s5 = .int .i64 k2 ∧ 1 ≤ k2 ∧ k0 + 1 + k2 ≤ d.size ∧ d.size - (k0 + 1 + k2) ≤ g ∧ wr = putRow encB (Sort.ahead w q2) blk off dk ∧ CompInv d (k0 + 1 + k2) kk dk)
          case atStart => exact ⟨k0 + 1, 1, q + 1, d, rfl, rfl, Nat.le_refl _, by omega, by omega, (putRow_self encB (Sort.ahead w (q + 1)) blk off d (holds_ahead encB w (q + 1) blk off d HH.out)).symm, CompInv.start A.out (keeps_neg (by omega) (by rw [B.out.1, B.out.2]))⟩
          case round =>
            obtain ⟨kk, k2, q2, dk, rfl, rfl, h1, hle, hg2, hwr, hI⟩ := hrel
            have hkk := hI.lt
            have hds := hI.size
            have hHk : Holds encB wr blk off dk := by rw [hwr]; exact holds_putRow encB _ blk off d dk (holds_ahead encB w q2 blk off d HH.out) hds
            have W2 : Aside (wr = putRow encB (Sort.ahead w q2) blk off dk) := hwr
            have I2 : Aside (CompInv d (k0 + 1 + k2) kk dk) := hI
            clear hwr
            by_cases hlt2 : k0 + 1 + k2 < d.size
            · obtain ⟨cm, _⟩ := hHk (k0 + 1 + k2) (by omega)
              obtain ⟨cp, _⟩ := hHk (k0 + 1 + k2 - 1) (by omega)
              obtain ⟨ck, fk⟩ := hHk kk (by omega)
              rw [hI.high (k0 + 1 + k2) (by omega), show off + (k0 + 1 + k2) = off + (k0 + 1) + k2 by omega] at cm
              rw [hI.high (k0 + 1 + k2 - 1) (by omega), show off + (k0 + 1 + k2 - 1) = off + (k0 + 1) + (k2 - 1) by omega] at cp
              clear hHk hI
              generalize hu : d[k0 + 1 + k2]! = u at cm
              generalize hv : d[k0 + 1 + k2 - 1]! = v at cp
              generalize dk[kk]! = old at ck
              have C : Aside (d[k0 + 1 + k2]! = u ∧ d[k0 + 1 + k2 - 1]! = v) := ⟨hu, hv⟩
              clear hu hv
              obtain ⟨k3, rfl⟩ : ∃ k3, k2 = k3 + 1 := ⟨k2 - 1, by omega⟩
              rw [Nat.add_sub_cancel] at cp
              have x1 : IntKind.i64.wrap (((k3 + 1 : Nat) : Int) - 1) = (k3 : Int) := by rw [i64_in _ (by omega)]; omega
              have x5 : IntKind.i64.wrap ((k3 : Int) + 1 - 1) = (k3 : Int) := by rw [i64_in _ (by omega)]; omega
              have x2 : (k3 : Int) < (d.size : Int) - (k0 + 1 : Nat) := by omega
              have x3 : ((k3 + 1 : Nat) : Int) < (d.size : Int) - (k0 + 1 : Nat) := by omega
              have x4 : (0 : Int) ≤ (k3 : Int) := by omega
              have x6 : k3 + 1 < d.size - (k0 + 1) := by omega
              have x7 : k3 < d.size - (k0 + 1) := by omega
              by_cases huv : u = v
              · subst huv
                go_wp2_with fail
                go_region
                all_goals go_wp2_with fail
                go_roundg (d.size - (k0 + 1 + (k3 + 1 + 1)))
                case measure => omega
                case rel => exact ⟨kk, k3 + 1 + 1, q2 + 1, dk, rfl, by go_num, by omega, by omega, Nat.le_refl _, by rw [W2.out]; rfl, I2.out.skip (keeps_neg (by omega) (by rw [C.out.1, C.out.2]))⟩
              · have he1 : ((u.toNat : Int) == (v.toNat : Int)) = false := by rw [same_dec]; simpa using huv
                have he2 : (u.toNat == v.toNat) = false := by simpa using fun e : u.toNat = v.toNat => huv (UInt8.toNat_inj.1 e)
                go_wp2_with fail
                go_region
                all_goals go_wp2_with fail
                go_roundg (d.size - (k0 + 1 + (k3 + 1 + 1)))
                case measure => omega
                case rel => exact ⟨kk + 1, k3 + 1 + 1, q2 + 1, dk.setIfInBounds kk u, by go_num, by go_num, by omega, by omega, Nat.le_refl _, store_world_e encB (by omega) W2.out u, by have := I2.out.keep hlt2 (keeps_pos (by rw [C.out.1, C.out.2]; exact huv)); rwa [C.out.1] at this⟩
            · have hend : k0 + 1 + k2 = d.size := by omega
              have hcl : ∀ ty, (Builtin.clear_ #[64] ty #[.slice (some ⟨blk, off + kk, none⟩) (d.size - kk) (cap - kk)]).run Tryz.prog wr = .ok (.tuple #[]) (wr.setCells blk (off + kk) (List.replicate (d.size - kk) (encB 0))) :=
                fun ty => Lib.run_clear_slice wr _ _ ty _ Tryz.underlying64 v23 (hO.cells 0) (hO 0) blk (off + kk) _ _ (by omega) (fun j hj => by rw [show off + kk + j = off + (kk + j) by omega, (hHk (kk + j) (by omega)).1]; rfl) (fun j hj => by rw [show off + kk + j = off + (kk + j) by omega]; exact (hHk (kk + j) (by omega)).2)
              clear hHk hI
              go_wp2
              go_ret
              have hI := I2.out
              rw [hend] at hI
              refine ⟨by rw [hI.len]; rfl, q2, ?_⟩
              rw [hI.len, ← hI.done 0, ← putRow_setCells encB _ blk off _ dk kk (by simp; omega), ← W2.out, List.map_replicate]
        · have hd1 : ((x.toNat : Int) == (y.toNat : Int)) = false := by rw [same_dec]; simpa using hdup
          have hd2 : (x.toNat == y.toNat) = false := by simpa using fun e : x.toNat = y.toNat => hdup (UInt8.toNat_inj.1 e)
          go_wp2_with fail
          go_region
          all_goals go_wp2_with fail
          go_roundg (d.size - (k0 + 1 + 1))
          case measure => omega
          case rel =>
            refine ⟨k0 + 1 + 1, q + 1, by omega, by omega, Nat.le_refl _, by go_num, rfl, fun j hj => ?_⟩
            by_cases e : j = k0 + 1
            · subst e
              exact keeps_pos (by rw [B.out.1, B.out.2]; exact hdup)
            · exact A.out j (by omega)
      · have : k = d.size := by omega
        subst this
        have HH : Aside (Holds encB w blk off d) := hH
        clear hH
        go_wp2
        go_ret
        obtain ⟨e1, e2⟩ := HS.out q hall
        exact ⟨by rw [e1]; rfl, q, e2⟩
end Go.Proofs.YtchhbnnpannnhaaGreatDoor

namespace Go.Proofs.YtchhbnnpannnhaaGreatDoor
open Go.RowKit Go.Lib Go.Sort IntWalk
attribute [local go_sem] byte_at str_app

theorem info_byteL : (Tryz.prog.info? 5).map (fun i => (i.zero, i.size, i.bytes)) = some (some (.int .u8 0), 1, 1) := by kernel_rfl
def bcells (l : List UInt8) : List Value := l.map encB
theorem bcells_len (l : List UInt8) : (bcells l).length = l.length := by simp [bcells]
theorem bcells_app (a b : List UInt8) : bcells (a ++ b) = bcells a ++ bcells b := by simp [bcells]
/-- A row of bytes of the call's own. -/
abbrev OwnB (w : World) (base : Nat) (v : Value) (l : List UInt8) : Prop := w.ownsRow base 5 1 v l.length (bcells l)
theorem OwnB.keep {w w' : World} {base B : Nat} {v : Value} {l : List UInt8} (h : OwnB w base v l) (hb : Below B w w') (hB : w.heap.size ≤ B) : OwnB w' base v l := own_below h hb hB
theorem OwnB.base_ {w : World} {base base' : Nat} {v : Value} {l : List UInt8} (h : OwnB w base v l) (hB : base' ≤ base) : OwnB w base' v l := by
  refine ⟨h.1, ?_⟩
  rcases h.2 with h2 | ⟨g, cap, cur, hv, hg, r⟩
  · exact .inl h2
  · exact .inr ⟨g, cap, cur, hv, Nat.le_trans hB hg, r⟩
/-- append(s, x...) of two such rows. -/
theorem wpList_appendB {P : Program} {w : World} {ops : Array Oper} {rest : List Oper} {o : Oper} {a : Act} {Q : Exit → Act → World → Prop} (hgd : o.guard = none) (s x : Operand) (t : TypeId)
    (ho : o.op = .call { callee := .builtin .append, args := #[s, x], argTypes := #[t, t] }) (e : TypeId) (i : TypeInfo) (z : Value) (ht : P.underlying t = some (.slice e)) (hi : P.info? e = some i) (hz : i.zero = some z)
    (hsize : i.size = 1) (hby : i.bytes ≤ 64) (hzs : z.cells.size = 1) (base base2 : Nat) (v xv : Value) (l l2 : List UInt8) (hs : a.eval s = v)
    (hx : a.eval x = xv) (hown : w.ownsRow base e 1 v l.length (bcells l)) (hown2 : w.ownsRow base2 e 1 xv l2.length (bcells l2)) (hlen : l.length + l2.length ≤ 1000000) (hbase : base ≤ w.heap.size)
    (h : ∀ v' w', w'.ownsRow base e 1 v' (l ++ l2).length (bcells (l ++ l2)) → Below base w w' → wpList P ops Q rest (a.put o.dst v') w') : wpList P ops Q (o :: rest) a w := by
  have hbytes : (l.length + l2.length) * i.bytes ≤ 140737488355328 := by
    have h1 : (l.length + l2.length) * i.bytes ≤ 1000000 * 64 := Nat.mul_le_mul (by omega) hby
    omega
  rcases hown2.2 with ⟨hv, h0⟩ | ⟨g, cap, cur, hv, hb, hg, _⟩
  · have : l2 = [] := List.length_eq_zero_iff.1 h0
    subst this
    refine wpList_append_own_none hgd s x t ho base e i 1 ht hi v l.length (bcells l) hs hown (hx.trans hv) ?_
    exact h v w (by rw [List.append_nil]; exact hown) (Below.refl _ _)
  · subst hv
    refine wpList_append_own (P := P) w hgd s x t ho base e i z 1 i.bytes ht hi hz hsize rfl hzs (by omega) v l.length (bcells l) hs hown ⟨g, 0, none⟩ l2.length cap (bcells l2) hx (by rw [bcells_len]; omega) ?_ ?_ ?_ hbytes hbase ?_
    · intro j u hj
      exact hown2.cells (g := g) rfl j u hj
    · intro u hu
      obtain ⟨c, _, rfl⟩ := List.mem_map.1 hu
      rfl
    · simp only [maxLen]; omega
    · intro v' w' h1 h2 _
      refine h v' w' (by rw [List.length_append, bcells_app]; exact h1) ((Below.refl base w).grown h2 hbase (fun k hk => own_lt hown hk))

set_option maxRecDepth 100000 in
set_option maxHeartbeats 1000000 in
theorem grow_any (n : Nat) (w : World) (hn : n ≤ 100) :
    Calls Tryz.prog 74 #[.slice none 0 0, .int .i64 (n : Int)] w fun e w' => (∃ v, e = .returned v ∧ OwnB w' w.heap.size v []) ∧ Below w.heap.size w w' := by
  obtain ⟨i0, hi, hz0, hz1, hz2⟩ := info_parts info_byteL
  rcases Nat.eq_zero_or_pos n with rfl | hp
  · go_enter Tryz.func74, Tryz.ntmps74
    go_wp2_with fail
    go_ret
    exact ⟨⟨_, rfl, World.ownsRow_nil _ _ _ _⟩, Below.refl _ _⟩
  · have h3 : IntKind.i64.wrap ((n : Int) - 0) = (n : Int) := by rw [i64_in _ (by omega)]; omega
    have h4 : IntKind.i64.wrap (n : Int) = (n : Int) := i64_in _ (by omega)
    have h5 : (0 : Int) < (n : Int) := by omega
    have h6 : ¬ (n : Int) < 0 := by omega
    have hrz : ∀ ty, (Builtin.append_ #[64, 3] ty #[.slice none 0 0, .int .i64 (n : Int)]).run Tryz.prog w =
        .ok (.slice (some ⟨w.heap.size, 0, none⟩) n (grownCap w n 0 5)) (w.drew.alloc (.cells (#[] ++ Builtin.zeroCells (Value.int .u8 0).cells n ++ Builtin.zeroCells (Value.int .u8 0).cells (grownCap w n 0 5 - n)) 5)) := fun ty => by
      have h := Lib.run_append_grow_zeros (P := Tryz.prog) w 64 3 ty 5 i0 (.int .u8 0) .i64 .i64 Tryz.underlying64 Tryz.underlying3 hi hz0 none 0 0 [] (by rw [hz1]; exact run_firstCells_none w.drew 1 0 0 0) n hp (by omega) (by omega) (by omega)
        (by rw [hz2]; omega) (by rw [Nat.zero_add]; exact growslice_fits (by omega) (by rw [hz2]; omega))
      simpa using h
    have hGn : n ≤ grownCap w n 0 5 := grownCap_ge w _ _ _
    have hG2 : grownCap w n 0 5 ≤ maxLen := grownCap_le_maxLen w n 0 5 (by unfold maxLen; omega)
    generalize grownCap w n 0 5 = G at *
    have hG63 : G ≤ 9223372036854775807 := by unfold maxLen at hG2; omega
    have HOB : Hid (OwnB (w.drew.alloc (.cells (#[] ++ Builtin.zeroCells (Value.int .u8 0).cells n ++ Builtin.zeroCells (Value.int .u8 0).cells (G - n)) 5)) w.heap.size (.slice (some ⟨w.heap.size, 0, none⟩) 0 G) []) := Lib.hid ⟨rfl, .inr ⟨w.heap.size, G, _, rfl, Nat.le_refl _, heap_alloc_new w.drew _, Nat.zero_le _, hG2, by simp [size_zeroCells, Value.cells]; omega, by simp [bcells]⟩⟩
    have HBL : Hid (Below w.heap.size w (w.drew.alloc (.cells (#[] ++ Builtin.zeroCells (Value.int .u8 0).cells n ++ Builtin.zeroCells (Value.int .u8 0).cells (G - n)) 5))) := Lib.hid ((Below.drew (Below.refl _ w)).alloc (Nat.le_refl _) _)
    generalize w.drew.alloc (.cells (#[] ++ Builtin.zeroCells (Value.int .u8 0).cells n ++ Builtin.zeroCells (Value.int .u8 0).cells (G - n)) 5) = w1 at *
    go_enter Tryz.func74, Tryz.ntmps74
    go_wp2_with (at_builtin; refine Lib.wpList_append_run _ rfl _ _ _ _ rfl _ _ rfl rfl _ _ (hrz _) ?_)
    go_ret
    exact ⟨⟨_, rfl, HOB.out⟩, HBL.out⟩

set_option maxRecDepth 100000 in
set_option maxHeartbeats 2000000 in
theorem concat_any (v1 v2 : Value) (l1 l2 : List UInt8) (base b : Nat) (w : World) (h1 : OwnB w base v1 l1) (h2 : OwnB w base v2 l2) (hc0 : w.cell? ⟨b, 0, none⟩ = some v1) (hc1 : w.cell? ⟨b, 1, none⟩ = some v2) (hl : l1.length + l2.length ≤ 100) :
    Calls Tryz.prog 62 #[.slice (some ⟨b, 0, none⟩) 2 2] w fun e w' => (∃ v, e = .returned v ∧ OwnB w' w.heap.size v (l1 ++ l2)) ∧ Below w.heap.size w w' := by
  obtain ⟨i0, hi, hz0, hz1, hz2⟩ := info_parts info_byteL
  have H1 := Lib.hid h1; have H2 := Lib.hid h2
  obtain ⟨A1, c1, rfl, _⟩ := own_shape h1
  obtain ⟨A2, c2, rfl, _⟩ := own_shape h2
  have hb : b < w.heap.size := World.block_lt_of_cell? w ⟨b, 0, none⟩ hc0
  clear h1 h2
  generalize hn1 : l1.length = n1 at *
  generalize hn2 : l2.length = n2 at *
  have f0 : IntKind.i64.wrap (0 + (n1 : Int)) = (n1 : Int) := by rw [i64_in _ (by omega)]; omega
  have f0' : IntKind.i64.wrap (n1 : Int) = (n1 : Int) := i64_in _ (by omega)
  have f1 : IntKind.i64.wrap ((n1 : Int) + (n2 : Int)) = ((n1 + n2 : Nat) : Int) := by rw [i64_in _ (by omega)]; omega
  have f2 : ¬ (n1 : Int) < 0 := by omega
  have f3 : ¬ ((n1 + n2 : Nat) : Int) < 0 := by omega
  have f4 : ¬ (n1 : Int) + (n2 : Int) < 0 := by omega
  have HG := Lib.hid (grow_any (n1 + n2) w hl)
  have HN1 := Lib.hid hn1; have HN2 := Lib.hid hn2
  clear hn1 hn2
  go_enter Tryz.func62, Tryz.ntmps62
  go_wp2_with fail
  refine wp_loop_rounds 3 ?_
  rw [rounds_succ]
  go_wp2_with fail
  rw [rounds_succ]
  go_wp2_with fail
  rw [rounds_succ]
  go_wp2_with fail
  refine HG.out.mono ?_
  rintro e w1 ⟨⟨v, rfl, ho⟩, hb1⟩
  have HO := Lib.hid ho
  have HB := Lib.hid hb1
  obtain ⟨A3, c3, rfl, _⟩ := own_shape ho
  replace hc0 := (hb1.cell (p := ⟨b, 0, none⟩) hb).trans hc0
  replace hc1 := (hb1.cell (p := ⟨b, 1, none⟩) hb).trans hc1
  clear ho hb1 f0 f0' f1 f2 f3 f4
  go_wp2_with fail
  refine wp_loop_rounds 3 ?_
  rw [rounds_succ]
  go_wp2_with (at_builtin; refine wpList_appendB rfl (.tmp 31) (.tmp 32) _ rfl 5 i0 _ Tryz.underlying64 hi hz0 hz1 (by omega) rfl w.heap.size base (.slice A3 0 c3) (.slice A1 n1 c1) [] l1 rfl rfl HO.out (H1.out.keep HB.out (Nat.le_refl _)) (by have := HN1.out; simp; omega) HB.out.size ?_; intro v4 w4 ho4 hb4)
  have HO4 := Lib.hid ho4
  have HB4 := Lib.hid (HB.out.trans hb4)
  obtain ⟨A4, c4, rfl, _⟩ := own_shape ho4
  replace hc0 := (hb4.cell (p := ⟨b, 0, none⟩) hb).trans hc0
  replace hc1 := (hb4.cell (p := ⟨b, 1, none⟩) hb).trans hc1
  clear ho4 hb4
  go_wp2_with fail
  rw [rounds_succ]
  go_wp2_with (at_builtin; refine wpList_appendB rfl (.tmp 31) (.tmp 32) _ rfl 5 i0 _ Tryz.underlying64 hi hz0 hz1 (by omega) rfl w.heap.size base (.slice A4 _ c4) (.slice A2 n2 c2) ([] ++ l1) l2 rfl rfl HO4.out (H2.out.keep HB4.out (Nat.le_refl _)) (by have := HN1.out; have := HN2.out; simp; omega) HB4.out.size ?_; intro v5 w5 ho5 hb5)
  have HO5 := Lib.hid ho5
  have HB5 := Lib.hid (HB4.out.trans hb5)
  obtain ⟨A5, c5, rfl, _⟩ := own_shape ho5
  clear ho5 hb5 hc0 hc1
  go_wp2_with fail
  rw [rounds_succ]
  go_wp2_with fail
  go_ret
  exact ⟨⟨_, rfl, HO5.out⟩, HB5.out⟩
end Go.Proofs.YtchhbnnpannnhaaGreatDoor
