/- The walk over yard.Post. Condition: the variable yard.kinds reads as the program's text lays it. -/
import Derived.Test.YtehecbfgdpaemaaDoorYardS
namespace Go.Proofs.YtehecbfgdpaemaaDoor
open Go.RowKit YardM IntWalk
attribute [local go_sem] byte_at str_app

/-- What Post gives. -/
def postV (o : Option (List UInt8)) : Value := match o with
  | some p => .tuple #[S p, .nilIface]
  | none => .tuple #[S [], .iface 53 (.int .i64 2)]
def postR (R : Option St) : Option (List UInt8) := match R with
  | none => none
  | some s => if s.v then fin s.o s.st else none
theorem postM_R (l : List UInt8) : postM l = postR (run ⟨[], [], false⟩ l) := rfl
theorem kg_at {w wr : World} {kb : Nat} {kes : Array MapEntry} {kcl : Nat} (h1 : w.cell? ⟨0, 0, none⟩ = some (.map (some kb))) (h2 : w.heap[kb]? = some (.map kes kcl)) (hb : Below w.heap.size w wr) :
    wr.cell? ⟨0, 0, none⟩ = some (.map (some kb)) ∧ wr.heap[kb]? = some (.map kes kcl) :=
  ⟨(hb.cell (cell_lt h1)).trans h1, (hb.block kb (Array.getElem?_eq_some_iff.1 h2).1).trans h2⟩
/-- The tests on a byte, by its number. -/
theorem q40_ne {c : UInt8} (h : c ≠ 40) : ((c.toNat : Int) == 40) = false ∧ ((c.toNat : Int) != 40) = true := by
  have h1 : c.toNat ≠ 40 := fun e => h (UInt8.toNat_inj.1 e)
  have h2 : (c.toNat : Int) ≠ 40 := by omega
  simp [h2]
theorem q40_eq {c : UInt8} (h : c = 40) : ((c.toNat : Int) == 40) = true ∧ ((c.toNat : Int) != 40) = false := by subst h; decide
theorem q41_ne {c : UInt8} (h : c ≠ 41) : ((c.toNat : Int) == 41) = false := by
  have h1 : c.toNat ≠ 41 := fun e => h (UInt8.toNat_inj.1 e)
  have h2 : (c.toNat : Int) ≠ 41 := by omega
  simp [h2]
theorem q41_eq {c : UInt8} (h : c = 41) : ((c.toNat : Int) == 41) = true := by subst h; decide
theorem rk3 (c : UInt8) : (rk c != 3) = !(c == 94) := by
  by_cases h : c = 94
  · subst h; decide
  · have : rk c ≠ 3 := by
      unfold rk
      by_cases h1 : (c == 43 || c == 45) = true
      · rw [if_pos h1]; decide
      · rw [if_neg h1]
        by_cases h2 : (c == 42) = true
        · rw [if_pos h2]; decide
        · rw [if_neg h2, if_neg (by simpa using h)]; decide
    have h' : (c == 94) = false := by simpa using h
    rw [h']
    simpa using this
theorem popK_stop {k : Nat} {o : List UInt8} {t : UInt8} {st : List UInt8} (h : (decide (k < rk t) || (rk t == k && k != 3)) = false) : popK k o (t :: st) = (o, t :: st) := by
  rw [popK, if_neg (by rw [h]; decide)]
theorem popK_go {k : Nat} {o : List UInt8} {t : UInt8} {st : List UInt8} (h : (decide (k < rk t) || (rk t == k && k != 3)) = true) : popK k o (t :: st) = popK k (o ++ [t]) st := by
  rw [popK, if_pos h]

theorem field0 (r : Int) (b : Bool) (v : Value) (W : World) : (Instr.field 49 (.agg #[.int .i64 r, .bool b, v]) 0).run Tryd.prog W = .ok (.int .i64 r) W := by kernel_rfl
set_option maxRecDepth 100000 in
set_option maxHeartbeats 4000000 in
theorem post_ok (l : List UInt8) (w : World) (hl : l.length ≤ 24) (hk : KG w) :
    Calls Tryd.prog 10 #[S l] w fun e w' => e = .returned (postV (postM l)) ∧ Below w.heap.size w w' := by
  obtain ⟨ii, hi, hi0, hi1, hi2⟩ := info_parts info_byte
  obtain ⟨R, hR⟩ : ∃ R, run ⟨[], [], false⟩ l = R := ⟨_, rfl⟩
  rw [postM_R, hR]
  have HR := Lib.hid hR
  clear hR
  obtain ⟨kb, kes, kcl, hk1, hk2, hk3⟩ := hk
  have HK1 := Lib.hid hk1; have HK2 := Lib.hid hk2; have HK3 := Lib.hid hk3
  clear hk1 hk2 hk3
  obtain ⟨w1, hw1⟩ : ∃ w1, w1 = w.alloc (.cells #[S l] 9) := ⟨_, rfl⟩
  have hz1 : w1.heap.size = w.heap.size + 1 := by rw [hw1]; simp
  have hB1 : Below w.heap.size w w1 := by rw [hw1]; exact (Below.refl _ _).alloc (Nat.le_refl _) _
  have hbld := Lib.fresh_isBuilder 45 5 w1
  obtain ⟨w2, hw2⟩ : ∃ w2, w2 = w1.alloc (.cells #[.pointer none, .slice none 0 0] 45) := ⟨_, rfl⟩
  have hz2 : w2.heap.size = w.heap.size + 1 + 1 := by rw [hw2]; simp [hz1]
  obtain ⟨w3, hw3⟩ : ∃ w3, w3 = w2.alloc (.cells #[.slice none 0 0] 43) := ⟨_, rfl⟩
  have hz3 : w3.heap.size = w.heap.size + 1 + 1 + 1 := by rw [hw3]; simp [hz2]
  obtain ⟨cap, w4, hcv, hB4, hz4, hc4⟩ := conv_bytes l w3
  have hbb : w2.heap[w.heap.size + 1]? = some (.cells #[.pointer none, .slice none 0 0] 45 (0, 0)) := by rw [hw2, ← hz1]; exact heap_alloc_new w1 _
  have hps3 : PS (w.heap.size + 1) (w.heap.size + 1) (w.heap.size + 1 + 1) [] [] [] none (.slice none 0 0) w3 :=
    { bld := ⟨Nat.le_refl _, .pointer none, .slice none 0 0, by rw [hw3, Below.heap_alloc w2 _ _ (by omega)]; exact hbb, .inl rfl, World.ownsRow_nil _ _ _ _, rfl, by simp⟩
      var := by rw [hw3, ← hz2]; exact heap_alloc_new w2 _
      own := World.ownsRow_nil _ _ _ _
      gx := by simp
      vb := by simp [Value.ownBlock]
      vx := by simp [Value.ownBlock]
      gv := fun y hy => by cases hy
      xb := by omega
      Bx := by omega
      kept := fun p hp => by cases hp }
  obtain ⟨obT, hobT⟩ : ∃ ob, w4.heap[w.heap.size + 1 + 1 + 1]? = some ob := ⟨_, Array.getElem?_eq_getElem (by rw [hz4, hz3]; omega)⟩
  have hps4 : PS (w.heap.size + 1) (w.heap.size + 1) (w.heap.size + 1 + 1) [(w.heap.size + 1 + 1 + 1, obT)] [] [] none (.slice none 0 0) w4 :=
    { bld := hps3.bld.stay (hB4.block _ (by omega)) (fun y hy => by cases hy)
      var := (hB4.block _ (by omega)).trans hps3.var
      own := World.ownsRow_nil _ _ _ _
      gx := by simp
      vb := by simp [Value.ownBlock]
      vx := by simp [Value.ownBlock]
      gv := fun y hy => by cases hy
      xb := by omega
      Bx := by omega
      kept := fun p hp => by
        rw [List.mem_singleton] at hp
        subst hp
        exact ⟨hobT, by simp, by simp [Value.ownBlock], by show w.heap.size + 1 + 1 + 1 ≠ _; omega, by show w.heap.size + 1 + 1 + 1 ≠ _; omega⟩ }
  have HTX : Hid (∀ wr : World, wr.heap[w.heap.size + 1 + 1 + 1]? = some obT → ∀ j, j < l.length → wr.cell? ⟨w.heap.size + 1 + 1 + 1, j, none⟩ = some (.int .u8 ((bu l j).toNat : Int))) :=
    Lib.hid fun wr h j hj => by
      have h1 := hc4 j hj
      rw [hz3] at h1
      rw [← h1]
      exact World.cell?_of_block (a := ⟨w.heap.size + 1 + 1 + 1, j, none⟩) (h.trans hobT.symm)
  have hB : Below w.heap.size w w4 := by
    have h2 : Below w.heap.size w w3 := by rw [hw3, hw2]; exact (hB1.alloc (by omega) _).alloc (by rw [← hw2]; omega) _
    exact h2.trans (hB4.mono (by omega))
  have HPS := Lib.hid hps4; have HB := Lib.hid hB
  clear hps3 hps4 hB hB1 hB4 hbld hbb hc4 hobT
  rw [hz3] at hcv
  subst hw3 hw2 hw1
  clear hz1 hz2 hz3 hz4
  go_enter Tryd.func10, Tryd.ntmps10
  go_wp2_with fail
  refine (long1_no 24 l _ _ _ ?_ (by omega)).mono ?_
  · simp [World.cell?_alloc_new]
  rintro e w' ⟨rfl, rfl⟩
  go_wp2_with fail
  clear hcv
  generalize ht : w.heap.size + 1 + 1 + 1 = t at *
  generalize hx : w.heap.size + 1 + 1 = x at *
  generalize hb : w.heap.size + 1 = b at *
  go_loopg [8, 23] l.length (fun f vv iv wr => ∃ (i : Nat) (s : St) (G : Option Nat) (wv : Value), i + f = l.length ∧ iv = .int .i64 (i : Int) ∧ vv = .bool s.v ∧ PS b b x [(t, obT)] s.o s.st G wv wr ∧ s.o.length + s.st.length ≤ i ∧ run s (l.drop i) = R ∧ Below w.heap.size w wr)
  case atStart => exact ⟨0, ⟨[], [], false⟩, none, _, by omega, rfl, rfl, HPS.out, by simp, HR.out, HB.out⟩
  case round =>
    obtain ⟨i, s, G, wv, hif, rfl, rfl, hps, hol, hrr, hBr⟩ := hrel
    obtain ⟨o, st, v⟩ := s
    simp only at hps hol
    by_cases hlt : i < l.length
    · obtain ⟨f, rfl⟩ : ∃ f, gk = f + 1 := ⟨gk - 1, by omega⟩
      have hcell := HTX.out wr (hps.kept _ (List.mem_singleton.2 rfl)).1 i hlt
      obtain ⟨hk1, hk2⟩ := kg_at HK1.out HK2.out hBr
      rw [drop_bu hlt] at hrr
      generalize bu l i = c at *
      have hlk := HK3.out wr hk2 c true
      rw [if_pos rfl] at hlk
      unfold kindV at hlk
      obtain ⟨e94, he94⟩ : ∃ b, b = (c == 94) := ⟨_, rfl⟩
      rw [← he94] at hlk
      have HE := Lib.hid he94
      have HPS1 := Lib.hid hps
      have HBR := Lib.hid hBr
      have HK2R := Lib.hid hk2
      have hTB : w.heap.size ≤ b := by omega
      have HTB := Lib.hid hTB
      have hwz := hBr.size
      have HWZ := Lib.hid hwz
      clear hps hBr hk2 he94 hTB hwz
      rcases kinds c with ⟨hd, h40, h41, hr0⟩ | ⟨h40, hd, hr0⟩ | ⟨h41, hd, hr0⟩ | ⟨hd, h40, h41, hr0⟩ | ⟨hd, h40, h41, hr0⟩
      · -- a digit
        rw [do_none hr0, hr0] at hlk
        obtain ⟨q1, _⟩ := q40_ne h40
        have q2 := q41_ne h41
        have HD := Lib.hid hd
        have HBA := Lib.hid (HBR.out.alloc HWZ.out (.cells #[.int .i64 0, .bool e94, .nilFunc] 49))
        cases v with
        | true =>
          have HRN : Hid (R = none) := Lib.hid (by rw [← hrr]; simp only [run, stp_dig hd]; rfl)
          clear hrr hd h40 h41 hr0
          go_wp2_with fail
          refine (digit_any c _).mono ?_
          rintro e w' ⟨rfl, rfl⟩
          rw [HD.out]
          go_wp2_with fail
          go_ret2
          exact ⟨by rw [HRN.out]; rfl, HBA.out⟩
        | false =>
          have HRR : Hid (run ⟨o ++ [c], st, true⟩ (l.drop (i + 1)) = R) := Lib.hid (by rw [← hrr]; simp only [run, stp_dig hd]; rfl)
          have HAD := Lib.hid (HPS1.out.alloc (.cells #[.int .i64 0, .bool e94, .nilFunc] 49))
          clear hrr hd h40 h41 hr0
          go_wp2_with fail
          refine (digit_any c _).mono ?_
          rintro e w' ⟨rfl, rfl⟩
          rw [HD.out]
          go_wp2_with fail
          refine (writeByte_fr _ _ G o c _ HAD.out.bld (by omega) HAD.out.hB).mono ?_
          rintro e w5 ⟨rfl, G', hb', hf, hG⟩
          have HP5 := Lib.hid (HAD.out.write hb' hf hG)
          have HB5 := Lib.hid (HBA.out.trans ((hf.below HAD.out.hB HAD.out.bld.1 (fun y hy => (HAD.out.bld.glt hy).2)).mono HTB.out))
          clear hb' hf hG
          go_wp2_with fail
          go_roundg f
          case measure => omega
          case rel => exact ⟨i + 1, ⟨o ++ [c], st, true⟩, G', wv, by omega, by simp, rfl, HP5.out, by simp; omega, HRR.out, HB5.out⟩
      · -- '('
        rw [do_none hr0, hr0] at hlk
        obtain ⟨q1, _⟩ := q40_eq h40
        have q2 := q41_ne (c := c) (by rw [h40]; decide)
        have HD := Lib.hid hd
        have HBA := Lib.hid (HBR.out.alloc HWZ.out (.cells #[.int .i64 0, .bool e94, .nilFunc] 49))
        cases v with
        | true =>
          have HRN : Hid (R = none) := Lib.hid (by rw [← hrr, h40]; simp only [run, stp_l]; rfl)
          clear hrr hd h40 hr0
          go_wp2_with fail
          refine (digit_any c _).mono ?_
          rintro e w' ⟨rfl, rfl⟩
          rw [HD.out]
          go_wp2_with fail
          go_ret2
          exact ⟨by rw [HRN.out]; rfl, HBA.out⟩
        | false =>
          have HRR : Hid (run ⟨o, c :: st, false⟩ (l.drop (i + 1)) = R) := Lib.hid (by rw [← hrr, h40]; simp only [run, stp_l]; rfl)
          have HAD := Lib.hid (HPS1.out.alloc (.cells #[.int .i64 0, .bool e94, .nilFunc] 49))
          obtain ⟨c1, c2⟩ := HAD.out.varc
          clear hrr hd h40 hr0
          go_wp2_with fail
          refine (digit_any c _).mono ?_
          rintro e w' ⟨rfl, rfl⟩
          rw [HD.out]
          go_wp2_with (at_builtin; refine wpList_append_own_at _ rfl (.tmp 50) (.tmp 52) 43 rfl b 5 ii (.int .u8 0) 1 1 Tryd.underlying43 hi hi0 hi1 hi2 rfl (by decide) _ _ _ rfl (HAD.out.own.alloc _) ⟨wr.heap.size + 1, 0, none⟩ 1 1 [.int .u8 (c.toNat : Int)] rfl rfl ?c1 ?c2 ?c3 ?c4 ?c5 ?_)
          case c1 =>
            intro j u' hj
            match j, hj with
            | 0, hj =>
              have : (Value.int .u8 (c.toNat : Int)) = u' := by simpa using hj
              subst this
              simp [Addr.add]
          case c2 => intro u' hu'; simp at hu'; subst hu'; rfl
          case c3 => simp only [maxLen]; omega
          case c4 => omega
          case c5 => have := HAD.out.hB; simp at this ⊢; omega
          intro v' w5 hown' hgrow _ hat
          have HA2 := Lib.hid (HAD.out.alloc (.cells #[.int .u8 (c.toNat : Int)] 5))
          have hx5 : w5.heap[x]? = some (.cells #[_] 43 (0, 0)) := (hgrow.block x HA2.out.xlt (fun e => HA2.out.vx e.symm)).trans HA2.out.var
          have d1 := Lib.cell_of_heap hx5 0
          have d2 := Lib.frozen_of_heap hx5 0
          simp at d1
          obtain ⟨ao, cp5, hv5, _⟩ := own_shape hown'
          have HP5 := Lib.hid ((HA2.out.setv (st' := c :: st) (wv' := v') hgrow (by have h' := hown'; simp only [List.length_cons, List.reverse_cons, List.map_append, List.map_cons, List.map_nil, List.map_reverse] at h' ⊢; exact h') (by rcases hat with e | e; exact .inl e; exact .inr ⟨_, e, by simp⟩)).less (kp' := [(t, obT)]) (by simp))
          have HB5 := Lib.hid ((((HBA.out.alloc (by have := HBA.out.size; omega) (.cells #[.int .u8 (c.toNat : Int)] 5)).grown hgrow (by have := HBA.out.size; simp at this ⊢; omega) (fun k hk => by have := (HA2.out.own.lt k hk).1; omega)).setCell (p := ⟨x, 0, none⟩) (by show w.heap.size ≤ x; omega) v'))
          clear hown' hgrow hat hx5 HA2
          subst hv5
          go_wp2_with fail
          go_roundg f
          case measure => omega
          case rel => exact ⟨i + 1, ⟨o, c :: st, false⟩, _, _, by omega, by simp, rfl, HP5.out, by simp; omega, HRR.out, HB5.out⟩
      · -- ')'
        rw [do_none hr0, hr0] at hlk
        obtain ⟨q1, _⟩ := q40_ne (c := c) (by rw [h41]; decide)
        have q2 := q41_eq h41
        have HD := Lib.hid hd
        have HBA := Lib.hid (HBR.out.alloc HWZ.out (.cells #[.int .i64 0, .bool e94, .nilFunc] 49))
        cases v with
        | false =>
          have HRN : Hid (R = none) := Lib.hid (by rw [← hrr, h41]; simp only [run, stp_r]; rfl)
          clear hrr hd h41 hr0
          go_wp2_with fail
          refine (digit_any c _).mono ?_
          rintro e w' ⟨rfl, rfl⟩
          rw [HD.out]
          go_wp2_with fail
          go_ret2
          exact ⟨by rw [HRN.out]; rfl, HBA.out⟩
        | true =>
          obtain ⟨PB, hPB⟩ : ∃ P, popB o st = P := ⟨_, rfl⟩
          have HRR : Hid ((match PB.2 with | [] => none | _ :: st' => run ⟨PB.1, st', true⟩ (l.drop (i + 1))) = R) := Lib.hid (by
            rw [← hrr, h41, ← hPB]
            simp only [run, stp_r, if_true]
            cases (popB o st).2 <;> rfl)
          have HAD := Lib.hid (HPS1.out.alloc (.cells #[.int .i64 0, .bool e94, .nilFunc] 49))
          have HPB := Lib.hid hPB
          clear hrr hd h41 hr0 hPB HPS1 HBR
          go_wp2_with fail
          refine (digit_any c _).mono ?_
          rintro e w' ⟨rfl, rfl⟩
          rw [HD.out]
          go_wp2_with fail
          generalize wr.alloc (.cells #[.int .i64 0, .bool e94, .nilFunc] 49) = w5 at *
          clear hcell hk1 hlk
          go_loopg [] st.length (fun q wi => ∃ (o' st' : List UInt8) (G : Option Nat) (wv : Value), st'.length = q ∧ PS b b x [(t, obT)] o' st' G wv wi ∧ popB o' st' = PB ∧ o'.length + st'.length ≤ i ∧ Below w.heap.size w wi)
          case atStart => exact ⟨o, st, G, wv, rfl, HAD.out, HPB.out, hol, HBA.out⟩
          case round =>
            clear HAD HBA HPB hol
            obtain ⟨o', st', G, wv, hq, hps, hpb, hol, hB5⟩ := hrel
            obtain ⟨c1, c2⟩ := hps.varc
            have HB5 := Lib.hid hB5; clear hB5
            cases st' with
            | nil =>
              clear hq
              obtain ⟨A, cp, rfl⟩ := hps.none_
              have HRN : Hid (R = none) := Lib.hid (by rw [← HRR.out, ← hpb]; rfl)
              clear hpb hps
              go_wp2_with fail
              go_ret2
              exact ⟨by rw [HRN.out]; rfl, HB5.out⟩
            | cons tt st' =>
              obtain ⟨g, cp, rfl, hcp, htop, hpop⟩ := hps.top
              by_cases ht40 : tt = 40
              · obtain ⟨r1, r2⟩ := q40_eq ht40
                have HR5 : Hid (run ⟨o', st', true⟩ (l.drop (i + 1)) = R) := Lib.hid (by
                  rw [← HRR.out, ← hpb, ht40, popB, if_neg (by decide)])
                have HP5 := Lib.hid (hps.setv (st' := st') (wv' := .slice (some ⟨g, 0, none⟩) st'.length cp) (grown_refl wr _) hpop (.inl rfl))
                have HB6 := Lib.hid (HB5.out.setCell (p := ⟨x, 0, none⟩) (by show w.heap.size ≤ x; omega) (.slice (some ⟨g, 0, none⟩) st'.length cp))
                simp only [List.length_cons] at hol hq
                have HQ := Lib.hid hq; clear hq
                clear hpb hps hpop ht40
                generalize hn : st'.length = n at *
                go_wp2_with fail
                go_roundg f
                case measure => omega
                case rel => exact ⟨i + 1, ⟨o', st', true⟩, G, _, by omega, by simp, rfl, HP5.out, by show o'.length + st'.length ≤ i + 1; omega, HR5.out, HB6.out⟩
              · obtain ⟨r1, r2⟩ := q40_ne ht40
                have HPB : Hid (popB (o' ++ [tt]) st' = PB) := Lib.hid (by rw [← hpb, popB, if_pos (by simpa using ht40)])
                have HP5 := Lib.hid hps
                simp only [List.length_cons] at hol hq
                have HQ := Lib.hid hq; clear hq
                clear hpb hps hpop ht40
                obtain ⟨n, hn'⟩ : ∃ n, n = st'.length := ⟨_, rfl⟩
                rw [← hn'] at htop hcp c1
                have HP6 : Hid (PS b b x [(t, obT)] o' (tt :: st') G (.slice (some ⟨g, 0, none⟩) (n + 1) cp) wr) := Lib.hid (by rw [hn']; exact HP5.out)
                have hn := hn'.symm
                clear hn'
                clear HP5
                go_wp2_with fail
                refine (pop_any HP6.out (by omega) (by omega)).mono ?_
                rintro e w6 ⟨rfl, G', wv', hp', hb'⟩
                have HP7 := Lib.hid hp'
                have HB7 := Lib.hid (HB5.out.trans (hb'.mono (show w.heap.size ≤ b by omega)))
                clear hp' hb' HP6 c1 c2 htop
                go_wp2_with fail
                go_roundg st'.length
                case measure => have := HQ.out; omega
                case rel => exact ⟨o' ++ [tt], st', G', wv', rfl, HP7.out, HPB.out, by simp; omega, HB7.out⟩
      · -- a sign
        have hrk : (rk c != 0) = true := by simp; omega
        obtain ⟨q1, _⟩ := q40_ne h40
        have q2 := q41_ne h41
        have HD := Lib.hid hd
        obtain ⟨F, eF, _, _⟩ := do_of hr0
        rw [eF, hrk] at hlk
        clear eF hrk
        obtain ⟨k, hkk⟩ : ∃ k, k = rk c := ⟨_, rfl⟩
        rw [← hkk] at hlk
        have HBA := Lib.hid (HBR.out.alloc HWZ.out (.cells #[.int .i64 (k : Int), .bool e94, .func (.func F) #[] #[]] 49))
        cases v with
        | false =>
          have HRN : Hid (R = none) := Lib.hid (by rw [← hrr]; simp only [run, stp_op hr0]; rfl)
          clear hrr hd h40 h41 hr0 hkk
          go_wp2_with fail
          refine (digit_any c _).mono ?_
          rintro e w' ⟨rfl, rfl⟩
          rw [HD.out]
          go_wp2_with fail
          go_ret2
          exact ⟨by rw [HRN.out]; rfl, HBA.out⟩
        | true =>
          obtain ⟨PB, hPB⟩ : ∃ P, popK k o st = P := ⟨_, rfl⟩
          have HRR0 : Hid (run ⟨PB.1, c :: PB.2, false⟩ (l.drop (i + 1)) = R) := Lib.hid (by
            rw [← hrr, ← hPB, hkk]
            simp only [run, stp_op hr0, if_true])
          have HAD := Lib.hid (HPS1.out.add (.cells #[.int .i64 (k : Int), .bool e94, .func (.func F) #[] #[]] 49))
          have HPB := Lib.hid hPB
          have hk3' : (k != 3) = !e94 := by rw [hkk, rk3, HE.out]
          have HK3' := Lib.hid hk3'
          clear hrr hd h40 h41 hr0 hkk hPB HPS1 HBR hk3'
          have hkx : wr.heap.size < (wr.alloc (.cells #[.int .i64 (k : Int), .bool e94, .func (.func F) #[] #[]] 49)).heap.size := by simp
          go_wp2_with fail
          refine (digit_any c _).mono ?_
          rintro e w' ⟨rfl, rfl⟩
          rw [HD.out]
          go_wp2_with fail
          generalize wr.alloc (.cells #[.int .i64 (k : Int), .bool e94, .func (.func F) #[] #[]] 49) = w5 at *
          generalize wr.heap.size = kx at *
          clear hcell hk1 hlk hkx
          go_loopg [] st.length (fun q wi => ∃ (o' st' : List UInt8) (G : Option Nat) (wv : Value), st'.length = q ∧ PS b b x [(kx, (.cells #[.int .i64 (k : Int), .bool e94, .func (.func F) #[] #[]] 49)), (t, obT)] o' st' G wv wi ∧ popK k o' st' = PB ∧ o'.length + st'.length ≤ i ∧ Below w.heap.size w wi)
          case atStart => exact ⟨o, st, G, wv, rfl, HAD.out, HPB.out, hol, HBA.out⟩
          case round =>
            clear HAD HBA HPB hol
            obtain ⟨o', st', G, wv, hq, hps, hpb, hol, hB5⟩ := hrel
            obtain ⟨c1, c2⟩ := hps.varc
            obtain ⟨g1, g2⟩ := kg_at HK1.out HK2.out hB5
            have hbox := (hps.kept (kx, (.cells #[.int .i64 (k : Int), .bool e94, .func (.func F) #[] #[]] 49)) (by simp)).1
            have b0 := Lib.cell_of_heap hbox 0
            have b1 := Lib.cell_of_heap hbox 1
            simp at b0 b1
            have HB5 := Lib.hid hB5; clear hB5 hbox
            cases st' with
            | nil =>
              clear hq
              obtain ⟨A, cp, rfl⟩ := hps.none_
              have hPB' : (o', []) = PB := hpb
              subst hPB'
              have HRR := Lib.hid HRR0.out
              have HPS2 := Lib.hid hps
              clear hpb hps HRR0 g2
              go_wp2_with fail
              go_quiet (fail)
              clear c1 c2 b0 b1 g1
              have HAD := Lib.hid (HPS2.out.drewN nq)
              have HBD := Lib.hid (below_drewN HB5.out nq)
              generalize wr.drewN nq = wq at *
              clear HPS2 HB5
              obtain ⟨c1, c2⟩ := HAD.out.varc
              go_wp2_with (at_builtin; refine wpList_append_own_at _ rfl (.tmp 126) (.tmp 128) 43 rfl b 5 ii (.int .u8 0) 1 1 Tryd.underlying43 hi hi0 hi1 hi2 rfl (by decide) _ _ _ rfl (HAD.out.own.alloc _) ⟨wq.heap.size, 0, none⟩ 1 1 [.int .u8 (c.toNat : Int)] rfl rfl ?c1 ?c2 ?c3 ?c4 ?c5 ?_)
              case c1 =>
                intro j u' hj
                match j, hj with
                | 0, hj =>
                  have : (Value.int .u8 (c.toNat : Int)) = u' := by simpa using hj
                  subst this
                  simp [Addr.add, World.cell?_alloc_new]
              case c2 => intro u' hu'; simp at hu'; subst hu'; rfl
              case c3 => simp only [maxLen]; omega
              case c4 => omega
              case c5 => have := HAD.out.hB; simp at this ⊢; omega
              intro v' w5 hown' hgrow _ hat
              have HA2 := Lib.hid (HAD.out.alloc (.cells #[.int .u8 (c.toNat : Int)] 5))
              have hx5 : w5.heap[x]? = some (.cells #[_] 43 (0, 0)) := (hgrow.block x HA2.out.xlt (fun e => HA2.out.vx e.symm)).trans HA2.out.var
              have d1 := Lib.cell_of_heap hx5 0
              have d2 := Lib.frozen_of_heap hx5 0
              simp at d1
              obtain ⟨ao, cp5, hv5, _⟩ := own_shape hown'
              have HP5 := Lib.hid ((HA2.out.setv (st' := c :: []) (wv' := v') hgrow (by have h' := hown'; simp only [List.length_cons, List.reverse_cons, List.map_append, List.map_cons, List.map_nil, List.map_reverse] at h' ⊢; exact h') (by rcases hat with e | e; exact .inl e; exact .inr ⟨_, e, by simp⟩)).less (kp' := [(t, obT)]) (by simp))
              have HB5 := Lib.hid ((((HBD.out.alloc (by have := HBD.out.size; omega) (.cells #[.int .u8 (c.toNat : Int)] 5)).grown hgrow (by have := HBD.out.size; simp at this ⊢; omega) (fun k hk => by have := (HA2.out.own.lt k hk).1; omega)).setCell (p := ⟨x, 0, none⟩) (by show w.heap.size ≤ x; omega) v'))
              clear hown' hgrow hat hx5 HA2
              subst hv5
              go_wp2_with fail
              go_roundg f
              case measure => omega
              case rel => exact ⟨i + 1, ⟨o', c :: [], false⟩, _, _, by omega, by simp, rfl, HP5.out, by simp at hol ⊢; omega, HRR.out, HB5.out⟩
            | cons tt st' =>
              obtain ⟨g, cp, rfl, hcp, htop, hpop⟩ := hps.top
              have ll0 := HK3.out wr g2 tt false
              rw [if_neg (by decide)] at ll0
              have ll1 := fun n => HK3.out (wr.drewN n) g2 tt false
              simp only [Bool.false_eq_true, if_false] at ll1
              unfold kindV at ll0 ll1
              simp only [List.length_cons] at hol hq
              have HQ := Lib.hid hq; clear hq
              obtain ⟨n, hn'⟩ : ∃ n, n = st'.length := ⟨_, rfl⟩
              rw [← hn'] at htop hcp c1
              have HP6 : Hid (PS b b x [(kx, (.cells #[.int .i64 (k : Int), .bool e94, .func (.func F) #[] #[]] 49)), (t, obT)] o' (tt :: st') G (.slice (some ⟨g, 0, none⟩) (n + 1) cp) wr) := Lib.hid (by rw [hn']; exact hps)
              have hn := hn'.symm
              clear hn'
              have HPB := Lib.hid hpb
              have hn24 : n ≤ 24 := by omega
              clear hps hpb hpop g2
              have f1 : IntKind.i64.wrap ((n : Int) + 1 - 1) = (n : Int) := by rw [i64_in _ (by omega)]; omega
              have f7 : IntKind.i64.wrap (n : Int) = (n : Int) := i64_in _ (by omega)
              have f3 : (0 : Int) ≤ (n : Int) := by omega
              have f5 : ((n : Int)).toNat = n := by omega
              have f6 : (n : Int) < (n : Int) + 1 := by omega
              obtain ⟨kt, hkt⟩ : ∃ kt, kt = rk tt := ⟨_, rfl⟩
              rw [← hkt] at ll0 ll1
              have fl0 := field0 (kt : Int) (tt == 94) (doV tt)
              generalize (tt == 94) = e95 at ll0 ll1 fl0
              rcases Nat.lt_trichotomy k kt with hlt1 | heq1 | hgt1
              · have HPB2 : Hid (popK k (o' ++ [tt]) st' = PB) := Lib.hid (by rw [← HPB.out, popK_go]; rw [← hkt]; simp [hlt1])
                have t1 : decide ((k : Int) < (kt : Int)) = true := by simp; omega
                have t1n : decide (k < kt) = true := by simp; omega
                clear HPB hkt hlt1
                go_wp2_with fail
                go_quiet (fail)
                go_wp2_with fail
                clear ll0 ll1 fl0 f1 f7 f3 f5 f6 t1 htop c1 c2 b0 b1 g1
                refine (pop_any (HP6.out.drewN nq) (by omega) (by omega)).mono ?_
                rintro e w6 ⟨rfl, G', wv', hp', hb'⟩
                have HP7 := Lib.hid hp'
                have HB7 := Lib.hid ((below_drewN HB5.out nq).trans (hb'.mono (show w.heap.size ≤ b by omega)))
                clear hp' hb' HP6 HB5
                go_wp2_with fail
                go_roundg st'.length
                case measure => have := HQ.out; omega
                case rel => exact ⟨o' ++ [tt], st', G', wv', rfl, HP7.out, HPB2.out, by simp; omega, HB7.out⟩
              · subst heq1
                cases e94 with
                | false =>
                  have HPB2 : Hid (popK k (o' ++ [tt]) st' = PB) := Lib.hid (by rw [← HPB.out, popK_go]; rw [← hkt, HK3'.out]; simp)
                  have t1 : decide ((k : Int) < (k : Int)) = false := by simp
                  have t2 : ((k : Int) == (k : Int)) = true := by simp
                  clear HPB hkt
                  go_wp2_with fail
                  go_quiet (fail)
                  go_wp2_with fail
                  clear ll0 ll1 fl0 f1 f7 f3 f5 f6 t1 htop c1 c2 b0 b1 g1 t2
                  refine (pop_any (HP6.out.drewN nq) (by omega) (by omega)).mono ?_
                  rintro e w6 ⟨rfl, G', wv', hp', hb'⟩
                  have HP7 := Lib.hid hp'
                  have HB7 := Lib.hid ((below_drewN HB5.out nq).trans (hb'.mono (show w.heap.size ≤ b by omega)))
                  clear hp' hb' HP6 HB5
                  go_wp2_with fail
                  go_roundg st'.length
                  case measure => have := HQ.out; omega
                  case rel => exact ⟨o' ++ [tt], st', G', wv', rfl, HP7.out, HPB2.out, by simp; omega, HB7.out⟩
                | true =>
                  have hPB' : (o', tt :: st') = PB := by rw [← HPB.out, popK_stop]; rw [← hkt, HK3'.out]; simp
                  subst hPB'
                  have t1 : decide ((k : Int) < (k : Int)) = false := by simp
                  have t2 : ((k : Int) == (k : Int)) = true := by simp
                  have HRR := Lib.hid HRR0.out
                  have HPS2 := Lib.hid HP6.out
                  clear HPB hkt HRR0
                  go_wp2_with fail
                  go_quiet (fail)
                  clear ll0 ll1 fl0 f1 f7 f3 f5 f6 t1 t2 htop c1 c2 b0 b1 g1
                  have HAD := Lib.hid (HPS2.out.drewN nq)
                  have HBD := Lib.hid (below_drewN HB5.out nq)
                  generalize wr.drewN nq = wq at *
                  clear HPS2 HB5
                  obtain ⟨c1, c2⟩ := HAD.out.varc
                  go_wp2_with (at_builtin; refine wpList_append_own_at _ rfl (.tmp 126) (.tmp 128) 43 rfl b 5 ii (.int .u8 0) 1 1 Tryd.underlying43 hi hi0 hi1 hi2 rfl (by decide) _ _ _ rfl (HAD.out.own.alloc _) ⟨wq.heap.size, 0, none⟩ 1 1 [.int .u8 (c.toNat : Int)] rfl rfl ?c1 ?c2 ?c3 ?c4 ?c5 ?_)
                  case c1 =>
                    intro j u' hj
                    match j, hj with
                    | 0, hj =>
                      have : (Value.int .u8 (c.toNat : Int)) = u' := by simpa using hj
                      subst this
                      simp [Addr.add, World.cell?_alloc_new]
                  case c2 => intro u' hu'; simp at hu'; subst hu'; rfl
                  case c3 => simp only [maxLen, List.length_cons]; omega
                  case c4 => simp only [List.length_cons]; omega
                  case c5 => have := HAD.out.hB; simp at this ⊢; omega
                  intro v' w5 hown' hgrow _ hat
                  have HA2 := Lib.hid (HAD.out.alloc (.cells #[.int .u8 (c.toNat : Int)] 5))
                  have hx5 : w5.heap[x]? = some (.cells #[_] 43 (0, 0)) := (hgrow.block x HA2.out.xlt (fun e => HA2.out.vx e.symm)).trans HA2.out.var
                  have d1 := Lib.cell_of_heap hx5 0
                  have d2 := Lib.frozen_of_heap hx5 0
                  simp at d1
                  obtain ⟨ao, cp5, hv5, _⟩ := own_shape hown'
                  have HP5 := Lib.hid ((HA2.out.setv (st' := c :: tt :: st') (wv' := v') hgrow (by have h' := hown'; simp only [List.length_cons, List.reverse_cons, List.map_append, List.map_cons, List.map_nil, List.map_reverse, List.append_assoc, List.cons_append, List.nil_append, hn] at h' ⊢; exact h') (by rcases hat with e | e; exact .inl e; exact .inr ⟨_, e, by simp⟩)).less (kp' := [(t, obT)]) (by simp))
                  have HB5 := Lib.hid ((((HBD.out.alloc (by have := HBD.out.size; omega) (.cells #[.int .u8 (c.toNat : Int)] 5)).grown hgrow (by have := HBD.out.size; simp at this ⊢; omega) (fun k hk => by have := (HA2.out.own.lt k hk).1; omega)).setCell (p := ⟨x, 0, none⟩) (by show w.heap.size ≤ x; omega) v'))
                  clear hown' hgrow hat hx5 HA2
                  subst hv5
                  go_wp2_with fail
                  go_roundg f
                  case measure => omega
                  case rel => exact ⟨i + 1, ⟨o', c :: tt :: st', false⟩, _, _, by omega, by simp, rfl, HP5.out, by simp at hol ⊢; omega, HRR.out, HB5.out⟩
              · have hPB' : (o', tt :: st') = PB := by rw [← HPB.out, popK_stop]; rw [← hkt]; simp; omega
                subst hPB'
                have t1 : decide ((k : Int) < (kt : Int)) = false := by simp; omega
                have t1n : decide (k < kt) = false := by simp; omega
                have t2 : ((kt : Int) == (k : Int)) = false := by simp; omega
                have t2n : (kt == k) = false := by simp; omega
                have HRR := Lib.hid HRR0.out
                have HPS2 := Lib.hid HP6.out
                clear HPB hkt HRR0 hgt1
                go_wp2_with fail
                go_quiet (fail)
                clear ll0 ll1 fl0 f1 f7 f3 f5 f6 t1 t2 htop c1 c2 b0 b1 g1
                have HAD := Lib.hid (HPS2.out.drewN nq)
                have HBD := Lib.hid (below_drewN HB5.out nq)
                generalize wr.drewN nq = wq at *
                clear HPS2 HB5
                obtain ⟨c1, c2⟩ := HAD.out.varc
                go_wp2_with (at_builtin; refine wpList_append_own_at _ rfl (.tmp 126) (.tmp 128) 43 rfl b 5 ii (.int .u8 0) 1 1 Tryd.underlying43 hi hi0 hi1 hi2 rfl (by decide) _ _ _ rfl (HAD.out.own.alloc _) ⟨wq.heap.size, 0, none⟩ 1 1 [.int .u8 (c.toNat : Int)] rfl rfl ?c1 ?c2 ?c3 ?c4 ?c5 ?_)
                case c1 =>
                  intro j u' hj
                  match j, hj with
                  | 0, hj =>
                    have : (Value.int .u8 (c.toNat : Int)) = u' := by simpa using hj
                    subst this
                    simp [Addr.add, World.cell?_alloc_new]
                case c2 => intro u' hu'; simp at hu'; subst hu'; rfl
                case c3 => simp only [maxLen, List.length_cons]; omega
                case c4 => simp only [List.length_cons]; omega
                case c5 => have := HAD.out.hB; simp at this ⊢; omega
                intro v' w5 hown' hgrow _ hat
                have HA2 := Lib.hid (HAD.out.alloc (.cells #[.int .u8 (c.toNat : Int)] 5))
                have hx5 : w5.heap[x]? = some (.cells #[_] 43 (0, 0)) := (hgrow.block x HA2.out.xlt (fun e => HA2.out.vx e.symm)).trans HA2.out.var
                have d1 := Lib.cell_of_heap hx5 0
                have d2 := Lib.frozen_of_heap hx5 0
                simp at d1
                obtain ⟨ao, cp5, hv5, _⟩ := own_shape hown'
                have HP5 := Lib.hid ((HA2.out.setv (st' := c :: tt :: st') (wv' := v') hgrow (by have h' := hown'; simp only [List.length_cons, List.reverse_cons, List.map_append, List.map_cons, List.map_nil, List.map_reverse, List.append_assoc, List.cons_append, List.nil_append, hn] at h' ⊢; exact h') (by rcases hat with e | e; exact .inl e; exact .inr ⟨_, e, by simp⟩)).less (kp' := [(t, obT)]) (by simp))
                have HB5 := Lib.hid ((((HBD.out.alloc (by have := HBD.out.size; omega) (.cells #[.int .u8 (c.toNat : Int)] 5)).grown hgrow (by have := HBD.out.size; simp at this ⊢; omega) (fun k hk => by have := (HA2.out.own.lt k hk).1; omega)).setCell (p := ⟨x, 0, none⟩) (by show w.heap.size ≤ x; omega) v'))
                clear hown' hgrow hat hx5 HA2
                subst hv5
                go_wp2_with fail
                go_roundg f
                case measure => omega
                case rel => exact ⟨i + 1, ⟨o', c :: tt :: st', false⟩, _, _, by omega, by simp, rfl, HP5.out, by simp at hol ⊢; omega, HRR.out, HB5.out⟩
      · -- no sign at all
        rw [do_none hr0, hr0] at hlk
        obtain ⟨q1, _⟩ := q40_ne h40
        have q2 := q41_ne h41
        have HD := Lib.hid hd
        have HBA := Lib.hid (HBR.out.alloc HWZ.out (.cells #[.int .i64 0, .bool e94, .nilFunc] 49))
        have HRN : Hid (R = none) := Lib.hid (by rw [← hrr]; simp only [run, stp_no hd h40 h41 hr0])
        clear hrr hd h40 h41 hr0
        cases v
        all_goals
          go_wp2_with fail
          refine (digit_any c _).mono ?_
          rintro e w' ⟨rfl, rfl⟩
          rw [HD.out]
          go_wp2_with fail
          go_ret2
          exact ⟨by rw [HRN.out]; rfl, HBA.out⟩
    · obtain rfl : i = l.length := by omega
      rw [List.drop_length] at hrr
      have hrr' : some ⟨o, st, v⟩ = R := hrr
      subst hrr'
      clear hrr HR
      have HBR := Lib.hid hBr
      cases v with
      | false =>
        clear hps hBr
        go_wp2_with fail
        go_ret2
        exact ⟨rfl, HBR.out⟩
      | true =>
        obtain ⟨FF, hFF⟩ : ∃ F, fin o st = F := ⟨_, rfl⟩
        have HFF := Lib.hid hFF
        have HPS1 := Lib.hid hps
        clear hps hBr hFF
        go_wp2_with fail
        go_loopg [] st.length (fun q wi => ∃ (o' st' : List UInt8) (G : Option Nat) (wv : Value), st'.length = q ∧ PS b b x [(t, obT)] o' st' G wv wi ∧ fin o' st' = FF ∧ o'.length + st'.length ≤ l.length ∧ Below w.heap.size w wi)
        case atStart => exact ⟨o, st, G, wv, rfl, HPS1.out, HFF.out, hol, HBR.out⟩
        case round =>
          clear HPS1 HBR hol
          obtain ⟨o', st', G, wv, hq, hps, hpb, hol, hB5⟩ := hrel
          obtain ⟨c1, c2⟩ := hps.varc
          have HB5 := Lib.hid hB5; clear hB5
          cases st' with
          | nil =>
            clear hq
            obtain ⟨A, cp, rfl⟩ := hps.none_
            have hFF2 : some o' = FF := hpb
            have HF2 := Lib.hid (HFF.out.trans hFF2.symm)
            have HP5 := Lib.hid hps
            clear hpb hps hFF2
            go_wp2_with fail
            refine (Tryd.Builder_String_any b b o' wr HP5.out.bld.isb HP5.out.hB).mono ?_
            rintro e w6 ⟨rfl, hb6⟩
            have HB7 := Lib.hid (HB5.out.trans (hb6.mono (show w.heap.size ≤ b by omega)))
            clear hb6
            go_wp2_with fail
            go_ret2
            exact ⟨by show _ = Ending.returned (postV (fin o st)); rw [HF2.out]; rfl, HB7.out⟩
          | cons tt st' =>
            obtain ⟨g, cp, rfl, hcp, htop, hpop⟩ := hps.top
            simp only [List.length_cons] at hol hq
            have HQ := Lib.hid hq; clear hq
            obtain ⟨n, hn'⟩ : ∃ n, n = st'.length := ⟨_, rfl⟩
            rw [← hn'] at htop hcp c1
            have HP6 : Hid (PS b b x [(t, obT)] o' (tt :: st') G (.slice (some ⟨g, 0, none⟩) (n + 1) cp) wr) := Lib.hid (by rw [hn']; exact hps)
            have hn := hn'.symm
            clear hn'
            by_cases ht40 : tt = 40
            · obtain ⟨r1, r2⟩ := q40_eq ht40
              have HF2 : Hid (fin o st = none) := Lib.hid (by rw [HFF.out, ← hpb, fin, if_pos (by simpa using ht40)])
              clear hpb hps hpop ht40
              go_wp2_with fail
              go_ret2
              exact ⟨by show _ = Ending.returned (postV (fin o st)); rw [HF2.out]; rfl, HB5.out⟩
            · obtain ⟨r1, r2⟩ := q40_ne ht40
              have HPB : Hid (fin (o' ++ [tt]) st' = FF) := Lib.hid (by rw [← hpb]; conv => rhs; rw [fin, if_neg (by simpa using ht40)])
              clear hpb hps hpop ht40
              go_wp2_with fail
              refine (pop_any HP6.out (by omega) (by omega)).mono ?_
              rintro e w6 ⟨rfl, G', wv', hp', hb'⟩
              have HP7 := Lib.hid hp'
              have HB7 := Lib.hid (HB5.out.trans (hb'.mono (show w.heap.size ≤ b by omega)))
              clear hp' hb' HP6 c1 c2 htop
              go_wp2_with fail
              go_roundg st'.length
              case measure => have := HQ.out; omega
              case rel => exact ⟨o' ++ [tt], st', G', wv', rfl, HP7.out, HPB.out, by simp; omega, HB7.out⟩
end Go.Proofs.YtehecbfgdpaemaaDoor
