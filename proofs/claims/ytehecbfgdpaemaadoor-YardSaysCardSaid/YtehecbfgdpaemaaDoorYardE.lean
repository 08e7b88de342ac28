/- The walk over the law YardDone. Condition: the variable yard.kinds reads as the program's text lays it. -/
import Derived.Test.YtehecbfgdpaemaaDoorYardL
namespace Go.Proofs.YtehecbfgdpaemaaDoor
open Go.RowKit YardM IntWalk
attribute [local go_sem] byte_at str_app

theorem str_one {a : List UInt8} {i : Nat} (h : i < a.length) : (ByteArray.mk a.toArray).extract i (i + 1) = ByteArray.mk [bu a i].toArray := by
  rw [Lib.extract_eq, show i + 1 - i = 1 by omega, List.drop_eq_getElem_cons h, bu_eq h]; rfl
/-- The digits of a text, how many signs it has, and what is on the stack behind it. -/
def digs (l : List UInt8) : List UInt8 := l.filter dig
def isS (c : UInt8) : Bool := !dig c && (c != 40 && c != 41)
def cntS : List UInt8 → Nat
  | [] => 0
  | c :: l => (if isS c then 1 else 0) + cntS l
def cntO : List UInt8 → Nat
  | [] => 0
  | c :: l => (if dig c then 0 else 1) + cntO l
def vrun : Nat → List UInt8 → Option Nat
  | v, [] => some v
  | v, c :: l => if dig c then vrun (v + 1) l else if v < 2 then none else vrun (v - 1) l
theorem digs_app (a b : List UInt8) : digs (a ++ b) = digs a ++ digs b := List.filter_append ..
theorem cntS_app (a b : List UInt8) : cntS (a ++ b) = cntS a + cntS b := by
  induction a with
  | nil => simp [cntS]
  | cons c a ih => simp only [List.cons_append, cntS, ih]; omega
theorem cntO_app (a b : List UInt8) : cntO (a ++ b) = cntO a + cntO b := by
  induction a with
  | nil => simp [cntO]
  | cons c a ih => simp only [List.cons_append, cntO, ih]; omega
theorem op_sort {x : UInt8} (h : 0 < rk x) : dig x = false ∧ isS x = true := by
  rcases kinds x with ⟨_, _, _, h1⟩ | ⟨_, _, h1⟩ | ⟨_, _, h1⟩ | ⟨h0, h1, h2, _⟩ | ⟨_, _, _, h1⟩
  · omega
  · omega
  · omega
  · exact ⟨h0, by simp [isS, h0, h1, h2]⟩
  · omega
theorem tree_digs {t : T} (h : t.wf) : digs t.flat = digs t.post ∧ cntS t.flat = cntO t.post := by
  induction t with
  | d c => have hc : dig c = true := h; exact ⟨rfl, by simp [T.flat, T.post, cntS, cntO, isS, hc]⟩
  | br t ih =>
    obtain ⟨h1, h2⟩ := ih h
    have e1 : dig 40 = false := by decide
    have e2 : dig 41 = false := by decide
    have e3 : isS 40 = false := by decide
    have e4 : isS 41 = false := by decide
    refine ⟨?_, ?_⟩
    · show digs ([40] ++ (t.flat ++ [41])) = _
      rw [digs_app, digs_app, h1]
      simp [digs, e1, e2, T.post]
    · simp only [T.flat, cntS, cntS_app, e3, e4, h2, T.post]
      simp
  | bi x a b iha ihb =>
    obtain ⟨hx, ha, hb, _, _⟩ := h
    obtain ⟨h1, h2⟩ := iha ha
    obtain ⟨h3, h4⟩ := ihb hb
    obtain ⟨e1, e2⟩ := op_sort hx
    refine ⟨?_, ?_⟩
    · show digs (a.flat ++ ([x] ++ b.flat)) = digs (a.post ++ b.post ++ [x])
      rw [digs_app, digs_app, digs_app, digs_app, h1, h3]
      simp [digs, e1]
    · simp only [T.flat, T.post, cntS_app, cntO_app, cntS, cntO, e1, e2, h2, h4]
      simp
      omega
theorem vrun_post : ∀ (t : T), t.wf → ∀ (v : Nat) (l : List UInt8), vrun v (t.post ++ l) = vrun (v + 1) l := by
  intro t
  induction t with
  | d c => intro h v l; have hc : dig c = true := h; simp [T.post, vrun, hc]
  | br t ih => intro h v l; exact ih h v l
  | bi x a b iha ihb =>
    intro h v l
    obtain ⟨hx, ha, hb, _, _⟩ := h
    obtain ⟨e1, _⟩ := op_sort hx
    simp only [T.post, List.append_assoc]
    rw [iha ha, ihb hb]
    show vrun (v + 1 + 1) (x :: l) = _
    rw [vrun, if_neg (by rw [e1]; decide), if_neg (by omega)]
    rfl
theorem done_facts {s p : List UInt8} (h : postM s = some p) : digs p = digs s ∧ cntS s = cntO p ∧ vrun 0 p = some 1 := by
  obtain ⟨t, h1, rfl, rfl⟩ := tree_of h
  obtain ⟨h2, h3⟩ := tree_digs h1
  have := vrun_post t h1 0 []
  rw [List.append_nil] at this
  exact ⟨h2.symm, h3, this⟩
theorem digs_len (l : List UInt8) : (digs l).length ≤ l.length := List.length_filter_le ..
theorem cntS_len (l : List UInt8) : cntS l ≤ l.length := by
  induction l with
  | nil => simp [cntS]
  | cons c l ih => simp only [cntS, List.length_cons]; split <;> omega
theorem cntO_len (l : List UInt8) : cntO l ≤ l.length := by
  induction l with
  | nil => simp [cntO]
  | cons c l ih => simp only [cntO, List.length_cons]; split <;> omega
theorem dig_yes {c : UInt8} (h : dig c = true) : (48 : Int) ≤ (c.toNat : Int) ∧ (c.toNat : Int) ≤ 57 := by
  have : 48 ≤ c.toNat ∧ c.toNat ≤ 57 := of_decide_eq_true h
  omega
theorem dig_no {c : UInt8} (h : dig c = false) : (c.toNat : Int) < 48 ∨ (57 < (c.toNat : Int) ∧ (48 : Int) ≤ (c.toNat : Int)) := by
  have : ¬ (48 ≤ c.toNat ∧ c.toNat ≤ 57) := of_decide_eq_false h
  omega
theorem q41b_ne {c : UInt8} (h : c ≠ 41) : ((c.toNat : Int) != 41) = true := by
  have h1 : c.toNat ≠ 41 := fun e => h (UInt8.toNat_inj.1 e)
  have h2 : (c.toNat : Int) ≠ 41 := by omega
  simp [h2]

set_option maxRecDepth 100000 in
set_option maxHeartbeats 4000000 in
theorem yardDone_walk (s : List UInt8) (w : World) (hs9 : s.length ≤ 9223372036854775807) (hk : KG w) :
    Calls Tryd.prog 3 #[S s] w fun e w' => e = .returned (.bool true) ∧ Below w.heap.size w w' := by
  have HK := Lib.hid hk
  clear hk
  go_enter Tryd.func3, Tryd.ntmps3
  go_wp2_with fail
  refine (fact_any w HK.out).mono ?_
  rintro e w1 ⟨rfl, hb1⟩
  have HB1 := Lib.hid hb1; clear hb1
  go_wp2_with fail
  by_cases hl : s.length ≤ 24
  rotate_left
  · refine (post_long s w1 (by omega)).mono ?_
    rintro e w2 ⟨rfl, hb2⟩
    have HB2 := Lib.hid (HB1.out.trans (hb2.mono HB1.out.size)); clear hb2
    go_wp2_with fail
    go_ret
    exact ⟨rfl, HB2.out⟩
  refine (post_ok s w1 hl (HK.out.below HB1.out (Nat.le_refl _))).mono ?_
  cases hp : postM s with
  | none =>
    clear hp
    rintro e w2 ⟨rfl, hb2⟩
    have HB2 := Lib.hid (HB1.out.trans (hb2.mono HB1.out.size)); clear hb2
    unfold postV
    go_wp2_with fail
    go_ret
    exact ⟨rfl, HB2.out⟩
  | some p =>
    obtain ⟨d1, d2, d3⟩ := done_facts hp
    have hpl := postM_len hp
    have hpl24 : p.length ≤ 24 := by omega
    have hc := cntS_len s
    have D1 := Lib.hid d1; have D2 := Lib.hid d2; have D3 := Lib.hid d3
    clear hp d1 d2 d3
    rintro e w2 ⟨rfl, hb2⟩
    have HB2 := Lib.hid (HB1.out.trans (hb2.mono HB1.out.size)); clear hb2
    unfold postV
    go_wp2_with fail
    go_loopg [6, 7, 8] s.length (fun f dv sv iv wr => ∃ i : Nat, i + f = s.length ∧ iv = .int .i64 (i : Int) ∧ dv = S (digs (s.take i)) ∧ sv = .int .i64 (cntS (s.take i) : Int) ∧ wr = w2)
    case atStart => exact ⟨0, by omega, rfl, rfl, rfl, rfl⟩
    case round =>
      obtain ⟨i, hif, rfl, rfl, rfl, hw⟩ := hrel
      obtain rfl : w2 = wr := hw.symm
      by_cases hlt : i < s.length
      · obtain ⟨f, rfl⟩ : ∃ f, gk = f + 1 := ⟨gk - 1, by omega⟩
        have t1 : digs (s.take (i + 1)) = digs (s.take i) ++ digs [bu s i] := by rw [take_succ_bu hlt, digs_app]
        have t2 : cntS (s.take (i + 1)) = cntS (s.take i) + cntS [bu s i] := by rw [take_succ_bu hlt, cntS_app]
        have hd24 := digs_len (s.take i)
        have hc24 := cntS_len (s.take i)
        rw [List.length_take] at hd24 hc24
        have T1 := Lib.hid t1; have T2 := Lib.hid t2
        have hx := str_one hlt
        clear t1 t2
        generalize digs (s.take i) = ds at *
        generalize cntS (s.take i) = n at *
        cases hd : dig (bu s i)
        · rcases dig_no hd with h48 | ⟨h57, h48⟩
          · by_cases h40 : bu s i = 40
            · obtain ⟨q1, q2⟩ := q40_eq h40
              have E1 : Hid (digs (s.take (i + 1)) = ds ∧ cntS (s.take (i + 1)) = n) := Lib.hid ⟨by rw [T1.out]; simp [digs, hd], by rw [T2.out]; simp [cntS, isS, h40]⟩
              clear hd h40
              go_wp2_with fail
              go_roundg f
              case measure => omega
              case rel => exact ⟨i + 1, by omega, by simp, by rw [E1.out.1], by rw [E1.out.2], rfl⟩
            · obtain ⟨q1, q2⟩ := q40_ne h40
              by_cases h41 : bu s i = 41
              · have E1 : Hid (digs (s.take (i + 1)) = ds ∧ cntS (s.take (i + 1)) = n) := Lib.hid ⟨by rw [T1.out]; simp [digs, hd], by rw [T2.out]; simp [cntS, isS, h41]⟩
                have q3 : (((bu s i).toNat : Int) != 41) = false := by rw [h41]; decide
                clear hd h40 h41
                go_wp2_with fail
                go_roundg f
                case measure => omega
                case rel => exact ⟨i + 1, by omega, by simp, by rw [E1.out.1], by rw [E1.out.2], rfl⟩
              · have E1 : Hid (digs (s.take (i + 1)) = ds ∧ cntS (s.take (i + 1)) = n + 1) := Lib.hid ⟨by rw [T1.out]; simp [digs, hd], by rw [T2.out]; simp [cntS, isS, hd, h40, h41]⟩
                have q3 := q41b_ne h41
                clear hd h40 h41
                go_wp2_with fail
                go_roundg f
                case measure => omega
                case rel => exact ⟨i + 1, by omega, by simp, by rw [E1.out.1], by rw [E1.out.2]; simp, rfl⟩
          · have h40 : bu s i ≠ 40 := by intro e; rw [e] at h57; exact absurd h57 (by decide)
            have h41 : bu s i ≠ 41 := by intro e; rw [e] at h57; exact absurd h57 (by decide)
            obtain ⟨q1, q2⟩ := q40_ne h40
            have E1 : Hid (digs (s.take (i + 1)) = ds ∧ cntS (s.take (i + 1)) = n + 1) := Lib.hid ⟨by rw [T1.out]; simp [digs, hd], by rw [T2.out]; simp [cntS, isS, hd, h40, h41]⟩
            have q3 := q41b_ne h41
            clear hd h40 h41
            go_wp2_with fail
            go_roundg f
            case measure => omega
            case rel => exact ⟨i + 1, by omega, by simp, by rw [E1.out.1], by rw [E1.out.2]; simp, rfl⟩
        · obtain ⟨h48, h57⟩ := dig_yes hd
          have E1 : Hid (digs (s.take (i + 1)) = ds ++ [bu s i] ∧ cntS (s.take (i + 1)) = n) := Lib.hid ⟨by rw [T1.out]; simp [digs, hd], by rw [T2.out]; simp [cntS, isS, hd]⟩
          clear hd
          go_wp2_with fail
          go_roundg f
          case measure => omega
          case rel => exact ⟨i + 1, by omega, by simp, by rw [E1.out.1], by rw [E1.out.2], rfl⟩
      · obtain rfl : i = s.length := by omega
        rw [List.take_length, D2.out, ← D1.out]
        have hco := cntO_len p
        go_wp2_with fail
        go_loopg [7, 9, 10, 11] p.length (fun f sv hv vv iv wr => ∃ i v : Nat, i + f = p.length ∧ iv = .int .i64 (i : Int) ∧ hv = S (digs (p.take i)) ∧ sv = .int .i64 ((cntO p : Int) - (cntO (p.take i) : Int)) ∧ vv = .int .i64 (v : Int) ∧ v ≤ i ∧ vrun v (p.drop i) = some 1 ∧ wr = w2)
        case atStart => exact ⟨0, 0, by omega, rfl, rfl, by simp [cntO], rfl, by omega, D3.out, rfl⟩
        case round =>
          obtain ⟨i, v, hif, rfl, rfl, rfl, rfl, hvi, hv, rfl⟩ := hrel
          by_cases hlt : i < p.length
          · obtain ⟨f, rfl⟩ : ∃ f, gk = f + 1 := ⟨gk - 1, by omega⟩
            have t1 : digs (p.take (i + 1)) = digs (p.take i) ++ digs [bu p i] := by rw [take_succ_bu hlt, digs_app]
            have t2 : cntO (p.take (i + 1)) = cntO (p.take i) + cntO [bu p i] := by rw [take_succ_bu hlt, cntO_app]
            have hd24 := digs_len (p.take i)
            have hc24 := cntO_len (p.take i)
            rw [List.length_take] at hd24 hc24
            rw [drop_bu hlt, vrun] at hv
            have T1 := Lib.hid t1; have T2 := Lib.hid t2
            have hx := str_one hlt
            clear t1 t2
            generalize digs (p.take i) = ds at *
            generalize cntO (p.take i) = n at *
            generalize cntO p = m at *
            cases hd : dig (bu p i)
            · rw [hd, if_neg (by decide)] at hv
              by_cases hv2 : v < 2
              · rw [if_pos hv2] at hv; cases hv
              rw [if_neg hv2] at hv
              have HV := Lib.hid hv
              have E1 : Hid (digs (p.take (i + 1)) = ds ∧ cntO (p.take (i + 1)) = n + 1) := Lib.hid ⟨by rw [T1.out]; simp [digs, hd], by rw [T2.out]; simp [cntO, hd]⟩
              have hv2' : (1 : Int) ≤ (v : Int) - 1 := by omega
              rcases dig_no hd with h48 | ⟨h57, h48⟩
              all_goals
                clear hd hv
                go_wp2_with fail
                go_roundg f
                case measure => omega
                case rel => exact ⟨i + 1, v - 1, by omega, by simp, by rw [E1.out.1], by rw [E1.out.2]; congr 1; omega, by congr 1; omega, by omega, HV.out, rfl⟩
            · rw [hd, if_pos rfl] at hv
              have HV := Lib.hid hv
              obtain ⟨h48, h57⟩ := dig_yes hd
              have E1 : Hid (digs (p.take (i + 1)) = ds ++ [bu p i] ∧ cntO (p.take (i + 1)) = n) := Lib.hid ⟨by rw [T1.out]; simp [digs, hd], by rw [T2.out]; simp [cntO, hd]⟩
              clear hd hv
              go_wp2_with fail
              go_roundg f
              case measure => omega
              case rel => exact ⟨i + 1, v + 1, by omega, by simp, by rw [E1.out.1], by rw [E1.out.2], by simp, by omega, HV.out, rfl⟩
          · obtain rfl : i = p.length := by omega
            rw [List.drop_length] at hv
            obtain rfl : v = 1 := by have : some v = some 1 := hv; injection this
            rw [List.take_length]
            have e0 : (cntO p : Int) - (cntO p : Int) = 0 := by omega
            clear hv
            go_wp2_with fail
            go_ret
            exact ⟨rfl, HB2.out⟩
end Go.Proofs.YtehecbfgdpaemaaDoor
