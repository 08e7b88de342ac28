/- Package re's reading of a pattern: its walk. No condition. -/
import Derived.Test.YtchhbnnpannnhaaDoorRegW
namespace Go.Proofs.YtchhbnnpannnhaaDoor
open Go.RowKit IntWalk
attribute [local go_sem] byte_at str_app

/-- Numbers go no farther than signs. -/
def Kb (E : PRd) : Prop := ∀ s k t r k', E s k = some (t, r, k') → k' + r.length ≤ k + s.length
theorem Lv.kb {E : PRd} (h : Lv E) : Kb E := fun s k t r k' e => by
  obtain ⟨u, q1, q2, q3⟩ := h _ _ _ _ _ e
  have h1 := q3.len
  rw [q2] at h1
  have h2 : (lets u).length ≤ u.length := List.length_filter_le _ _
  rw [q1, List.length_append]
  omega
/-- What a reading answers: the reader's block, the answer. -/
def Says (x : PRes) (r : Nat) (e : Ending) (w' : World) : Prop :=
  match x with
  | none => (∃ v, e = .returned (.tuple #[.pointer v, .bool false])) ∧ ∃ s k, w'.heap[r]? = some (rObj s k)
  | some (t, s, k) => ∃ g, e = .returned (.tuple #[.pointer (bl g), .bool true]) ∧ Nd w' t g ∧ w'.heap[r]? = some (rObj s k)
def ConOne (E : PRd) (n : Nat) : Prop := ∀ (s : List UInt8) (k r : Nat) (w : World), 0 < s.length → s.length ≤ n → k + s.length ≤ 100 → w.heap[r]? = some (rObj s k) →
  Calls Tryd.prog 61 #[.pointer (bl r)] w fun e w' => Says (E s k) r e w' ∧ Fr1 r w w'
def ConRow (E : PRd) (n : Nat) : Prop := ∀ (s : List UInt8) (k r : Nat) (w : World), s.length ≤ n → k + s.length ≤ 100 → w.heap[r]? = some (rObj s k) →
  Calls Tryd.prog 41 #[.pointer (bl r)] w fun e w' => Says (E s k) r e w' ∧ Fr1 r w w'
def ConEit (E : PRd) (n : Nat) : Prop := ∀ (s : List UInt8) (k r : Nat) (w : World), s.length ≤ n → k + s.length ≤ 100 → w.heap[r]? = some (rObj s k) →
  Calls Tryd.prog 31 #[.pointer (bl r)] w fun e w' => Says (E s k) r e w' ∧ Fr1 r w w'
theorem isE_ne {s : List UInt8} (h : 0 < s.length) : s.isEmpty = false := by
  cases s with
  | nil => exact absurd h (by simp)
  | cons => rfl
theorem cons_of {s : List UInt8} (h : 0 < s.length) : s = bu s 0 :: s.drop 1 := by
  cases s with
  | nil => exact absurd h (by simp)
  | cons => rfl

theorem one_at (E : PRd) (s : List UInt8) (k : Nat) (h : 0 < s.length) : oneE E s k = if 97 ≤ bu s 0 ∧ bu s 0 ≤ 122 then some (.sgn (bu s 0) k, s.drop 1, k + 1)
    else if bu s 0 = 40 then
      match E (s.drop 1) k with
      | none => none
      | some (_, [], _) => none
      | some (n, _ :: s2, k2) => some (fixE n, s2, k2)
    else none := by
  cases s with
  | nil => exact absurd h (by simp)
  | cons c s => exact oneE_cons E c s k
theorem kd_emp {t : Pt} (h : kd t = 1) : t = .emp := by
  cases t with
  | emp => rfl
  | _ => exact absurd h (by show ¬ ((_ : Int) = _); intro e; cases e)
theorem fix_of {t : Pt} (h : kd t ≠ 1) : fixE t = t := by
  cases t with
  | emp => exact absurd rfl h
  | _ => rfl
theorem addRow_of {n : Pt} (m : Pt) (h : kd n ≠ 1) : addRow n m = .seq n m := by
  cases n with
  | emp => exact absurd rfl h
  | _ => rfl
theorem kd_str {t : Pt} (h : kd t = 5) : addStar t = t := by
  cases t with
  | str l => rfl
  | _ => exact absurd h (by show ¬ ((_ : Int) = _); intro e; cases e)
theorem addStar_of {t : Pt} (h : kd t ≠ 5) : addStar t = .str t := by
  cases t with
  | str l => exact absurd rfl h
  | _ => rfl
theorem nd_new {W : World} {g : Nat} (hg : W.heap.size = g) (o : Obj) : (W.alloc o).heap[g]? = some o := by subst hg; exact heap_alloc_new W o
theorem sz_set (W : World) (r i : Nat) (v : Value) : (W.setCell ⟨r, i, none⟩ v).heap.size = W.heap.size := by simp [World.setCell]
set_option maxRecDepth 100000 in
set_option maxHeartbeats 2000000 in
theorem one_walk (E : PRd) (n : Nat) (hE : ConEit E n) (hK : Kb E) : ConOne (oneE E) (n + 1) := by
  intro s k r w h0 hn hk hr
  obtain ⟨k0, k1, z0, z1⟩ := rd_cells hr
  have hx := str_from s 1
  have hc := cons_of h0
  have hdl : (s.drop 1).length = s.length - 1 := by simp
  have HO : Hid (oneE E s k = if 97 ≤ bu s 0 ∧ bu s 0 ≤ 122 then some (.sgn (bu s 0) k, s.drop 1, k + 1)
    else if bu s 0 = 40 then
      match E (s.drop 1) k with
      | none => none
      | some (_, [], _) => none
      | some (n, _ :: s2, k2) => some (fixE n, s2, k2)
    else none) := Lib.hid (one_at E s k h0)
  have HE := Lib.hid (fun W => hE (s.drop 1) k r W (by omega) (by omega))
  have HKB := Lib.hid (hK (s.drop 1) k)
  have p1 : (0 : Int) < (s.length : Int) := by omega
  have p2 : (1 : Int) ≤ (s.length : Int) := by omega
  have p3 : 0 < s.length := h0
  have HRD := Lib.hid hr
  have HR1 := Lib.hid (rd_s hr (s.drop 1))
  generalize oneE E s k = X at *
  generalize hb : bu s 0 = c at *
  generalize s.drop 1 = d at *
  have f1 : IntKind.i64.wrap ((k : Int) + 1) = ((k + 1 : Nat) : Int) := by rw [i64_in _ (by omega)]; omega
  have f2 : IntKind.i64.wrap (((k + 1 : Nat) : Int) - 1) = (k : Int) := by rw [i64_in _ (by omega)]; omega
  clear hc hr
  by_cases hlo : 97 ≤ c ∧ c ≤ 122
  · have HX : Hid (X = some (.sgn c k, d, k + 1)) := Lib.hid (by rw [HO.out, if_pos hlo])
    have q1 : (97 : Int) ≤ (c.toNat : Int) := by have := UInt8.le_iff_toNat_le.1 hlo.1; have e : (97 : UInt8).toNat = 97 := rfl; omega
    have q2 : (c.toNat : Int) ≤ 122 := by have := UInt8.le_iff_toNat_le.1 hlo.2; have e : (122 : UInt8).toNat = 122 := rfl; omega
    clear HO HE HKB hlo
    go_enter Tryd.func61, Tryd.ntmps61
    go_wp2_with fail
    go_ret2
    refine ⟨?_, (((Fr1.refl r w).set 0 _).set 1 _).alloc _⟩
    rw [HX.out]
    exact ⟨_, rfl, nd_new (by rw [sz_set, sz_set]) _, rd_alloc (rd_k (rd_s HRD.out d) (k + 1)) _⟩
  by_cases h40 : c = 40
  rotate_left
  · have HX : Hid (X = none) := Lib.hid (by rw [HO.out, if_neg hlo, if_neg h40])
    have q3 : ¬ (c.toNat : Int) = 40 := fun e => h40 (UInt8.toNat_inj.1 (by show c.toNat = 40; omega))
    have q4 : ((c.toNat : Int) == 40) = false := by simpa using q3
    have q5 : (c.toNat == 40) = false := by have : ¬ c.toNat = 40 := by omega
                                            simpa using this
    have hlo' : (97 ≤ c.toNat → ¬ c.toNat ≤ 122) := fun h1 h2 => hlo ⟨UInt8.le_iff_toNat_le.2 h1, UInt8.le_iff_toNat_le.2 h2⟩
    clear HO HE HKB hlo
    go_enter Tryd.func61, Tryd.ntmps61
    by_cases ha : 97 ≤ c.toNat
    · have q1 : (97 : Int) ≤ (c.toNat : Int) := by omega
      have q2 : ¬ (c.toNat : Int) ≤ 122 := by have := hlo' ha; omega
      clear hlo' ha h40
      go_wp2_with fail
      go_ret2
      refine ⟨?_, (Fr1.refl r w).set 0 _⟩
      rw [HX.out]
      exact ⟨⟨none, rfl⟩, d, k, HR1.out⟩
    · have q1 : ¬ (97 : Int) ≤ (c.toNat : Int) := by omega
      clear hlo' ha h40
      go_wp2_with fail
      go_ret2
      refine ⟨?_, (Fr1.refl r w).set 0 _⟩
      rw [HX.out]
      exact ⟨⟨none, rfl⟩, d, k, HR1.out⟩
  · have HO2 : Hid (X = match E d k with
        | none => none
        | some (_, [], _) => none
        | some (n, _ :: s2, k2) => some (fixE n, s2, k2)) := Lib.hid (by rw [HO.out, if_neg hlo, if_pos h40])
    clear HO hlo
    have q1 : ¬ (97 : Int) ≤ (c.toNat : Int) := by rw [h40]; decide
    have q2 : (c.toNat : Int) = 40 := by rw [h40]; rfl
    have q3 : c.toNat = 40 := by omega
    clear h40
    go_enter Tryd.func61, Tryd.ntmps61
    go_wp2_with fail
    refine (HE.out _ HR1.out).mono ?_
    rintro e w2 ⟨hsy, hfr⟩
    have HF := Lib.hid (((Fr1.refl r w).set 0 _).trans hfr)
    clear HE hfr k0 k1 z0 z1 HRD HR1
    cases hq : E d k with
    | none =>
      rw [hq] at hsy
      obtain ⟨⟨v, rfl⟩, s', k', hr'⟩ := hsy
      have HX : Hid (X = none) := Lib.hid (by rw [HO2.out, hq])
      have HR' := Lib.hid hr'
      clear hr' HO2 hq
      go_wp2_with fail
      go_ret2
      refine ⟨?_, HF.out⟩
      rw [HX.out]
      exact ⟨⟨none, rfl⟩, s', k', HR'.out⟩
    | some p =>
      obtain ⟨t, s1, k1⟩ := p
      have hkb := HKB.out _ _ _ hq
      rw [hq] at hsy
      obtain ⟨g, rfl, hnd, hr'⟩ := hsy
      obtain ⟨k0, k1', z0, z1⟩ := rd_cells hr'
      have HR' := Lib.hid hr'
      cases s1 with
      | nil =>
        have HX : Hid (X = none) := Lib.hid (by rw [HO2.out, hq])
        clear hr' HO2 hq hnd
        go_wp2_with fail
        go_ret2
        refine ⟨?_, HF.out⟩
        rw [HX.out]
        exact ⟨⟨none, rfl⟩, _, _, HR'.out⟩
      | cons d0 s2 =>
        have HX : Hid (X = some (fixE t, s2, k1)) := Lib.hid (by rw [HO2.out, hq])
        have hne : 0 < (d0 :: s2).length := by simp
        have hx2 := str_from (d0 :: s2) 1
        rw [show (d0 :: s2).drop 1 = s2 from rfl] at hx2
        have hl2 : (d0 :: s2).length ≤ 100 := by omega
        generalize d0 :: s2 = s1 at *
        have he := isE_ne hne
        have p4 : (1 : Int) ≤ (s1.length : Int) := by omega
        have hkc := hnd.kind
        have HR2 := Lib.hid (rd_s hr' s2)
        have hg := hnd.lt
        have HF2 : Hid (Fr1 r w2 (w2.setCell ⟨r, 0, none⟩ (S s2))) := Lib.hid ((Fr1.refl r w2).set 0 _)
        have hnr : g ≠ r := fun e => by
          subst e
          obtain ⟨_, _, _, _, h⟩ := hnd.head
          rw [hr'] at h
          injection h with h
          injection h with h _ _
          have := congrArg Array.size h
          simp at this
        have HND := Lib.hid (hnd.fr hr' HF2.out)
        have hkc2 : (w2.setCell ⟨r, 0, none⟩ (S s2)).cell? ⟨g, 0, none⟩ = some (.int .i64 (kd t)) := HND.out.kind
        have HKT : Hid (kd t = kd t) := Lib.hid rfl
        by_cases ht : kd t = 1
        · obtain rfl : t = .emp := kd_emp ht
          change (w2.setCell ⟨r, 0, none⟩ (S s2)).cell? ⟨g, 0, none⟩ = some (.int .i64 1) at hkc2
          clear hr' HO2 hq hnd hkc hne
          go_wp2_with fail
          go_ret2
          refine ⟨?_, ((HF.out.trans HF2.out).alloc _).alloc _⟩
          rw [HX.out]
          exact ⟨_, rfl, ⟨_, nd_new (by rw [World.size_alloc, sz_set]) _, (Lib.alloc_old _ _ _ (by rw [World.size_alloc, sz_set]; exact Nat.lt_succ_self _)).trans (nd_new (by rw [sz_set]) _)⟩, rd_alloc (rd_alloc HR2.out _) _⟩
        · have q6 : (kd t == 1) = false := by simpa using ht
          have HFX : Hid (fixE t = t) := Lib.hid (fix_of ht)
          clear hr' HO2 hq hnd hkc hne
          generalize kd t = K at *
          go_wp2_with fail
          go_ret2
          refine ⟨?_, HF.out.trans HF2.out⟩
          rw [HX.out, HFX.out]
          exact ⟨_, rfl, HND.out, HR2.out⟩
end Go.Proofs.YtchhbnnpannnhaaDoor
