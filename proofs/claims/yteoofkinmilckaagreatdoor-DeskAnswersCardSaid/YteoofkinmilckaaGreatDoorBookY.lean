/- A log's text with one byte turned: its lines, and where Open stops. No condition. -/
import Derived.Test.YteoofkinmilckaaGreatDoorBookU
import Derived.Test.YteoofkinmilckaaGreatDoorBookX
namespace Go.Proofs.YteoofkinmilckaaGreatDoor
open Go.RowKit IntWalk

theorem lineR_good {e : Ev} (hG : evG e) (s : BS) : lineR s (evT e) = evA s e := by
  have hT : evT e = evL e ++ 32 :: Lib.decDigits (sumM (evL e)) := by unfold evT; simp
  have hu := sumM_lt (evL e)
  have hnum := numO_dec (sumM (evL e)) (by omega)
  have hL : evL e = (evW e).1 ++ 32 :: ((evW e).2.1 ++ 32 :: (evW e).2.2) := by rw [evL_eq]; simp
  obtain ⟨w1, w2, w3, _, _, _⟩ := evW_big hG
  obtain ⟨q1, q2⟩ := split3 (evW e).1 (evW e).2.1 (evW e).2.2 (fun c hc => ne_of_ge (w1 c hc) (by decide)) (fun c hc => ne_of_ge (w2 c hc) (by decide)) (fun c hc => ne_of_ge (w3 c hc) (by decide))
  have hS : splitL (evL e) = [(evW e).1, (evW e).2.1, (evW e).2.2] := by
    unfold splitL
    rw [hL, q1, q2]
    rfl
  have e1 : (evT e).drop ((evL e).length + 1) = Lib.decDigits (sumM (evL e)) := by rw [hT, show evL e ++ 32 :: Lib.decDigits (sumM (evL e)) = (evL e ++ [32]) ++ Lib.decDigits (sumM (evL e)) by simp, show (evL e).length + 1 = (evL e ++ [32]).length by simp, List.drop_left]
  have e2 : (evT e).take (evL e).length = evL e := by rw [hT]; exact List.take_left
  unfold lineR
  rw [show Lib.lastIndexByte ⟨(evT e).toArray⟩ 32 = ((evL e).length : Int) by rw [hT]; exact lastIdx_at _ _ (dd_no _), if_neg (by omega), Int.toNat_natCast, e1, e2, hnum]
  simp only []
  rw [if_neg (fun h => h rfl), hS]
  cases e with
  | put a x =>
    obtain ⟨g1, _, _⟩ := hG
    simp only [evW]
    rw [numO_dec a (by omega)]
    simp only [if_true]
    rfl
  | cut a k =>
    obtain ⟨g1, g2⟩ := hG
    simp only [evW]
    rw [numO_dec a (by omega), numO_dec k (by omega)]
    simp only []
    rw [if_neg (by decide), if_pos trivial]
    rfl
theorem putS_err {s : BS} {at_ : Int} {x : List UInt8} (h : (putS s at_ x).1 ≠ 0) : (putS s at_ x).2 = s := by
  have h' : ¬ putE s.now s.many at_ x = 0 := h
  unfold putS; simp only [if_neg h']
theorem cutS_err {s : BS} {at_ k : Int} (h : (cutS s at_ k).1 ≠ 0) : (cutS s at_ k).2 = s := by
  have h' : ¬ cutE s.now s.many at_ k = 0 := h
  unfold cutS; simp only [if_neg h']
theorem lineR_err {s : BS} {l : List UInt8} (h : (lineR s l).1 ≠ 0) : (lineR s l).2 = s := by
  unfold lineR at h ⊢
  split
  · rfl
  rename_i c1
  rw [if_neg c1] at h
  split
  · rfl
  rename_i n hn
  rw [hn] at h
  simp only [] at h
  split
  · rfl
  rename_i c2
  rw [if_neg c2] at h
  split
  · rename_i a b c hs
    rw [hs] at h
    simp only [] at h
    split
    · rfl
    · rename_i i2 hi
      rw [hi] at h
      simp only [] at h
      split
      · rename_i c3
        rw [if_pos c3] at h
        exact putS_err h
      · rename_i c3
        rw [if_neg c3] at h
        split
        · rename_i c4
          rw [if_pos c4] at h
          split
          · rfl
          · rename_i k2 hk
            rw [hk] at h
            exact cutS_err h
        · rfl
  · rfl
theorem foldl_none (xs : List (List UInt8)) : xs.foldl stepC none = none := by
  induction xs with
  | nil => rfl
  | cons x xs ih => exact ih
theorem runC_app (a t : List (List UInt8)) : runC (a ++ t) = t.foldl stepC (runC a) := by unfold runC; rw [List.foldl_append]
theorem runC_good {es : List Ev} {s : BS} (h : Logs es s) : ∀ j, j ≤ es.length → runC ((es.take j).map fun e => evT e ++ [10]) = some (stE es j)
  | 0, _ => by cases es <;> rfl
  | j + 1, hj => by
    obtain ⟨_, h2⟩ := h.at_.2 j (by omega)
    obtain ⟨h0, hg, hst⟩ := h2 (by omega)
    have hget : es.getD j (.cut 0 0) = es[j] := by rw [List.getD_eq_getElem?_getD, List.getElem?_eq_getElem (by omega)]; rfl
    rw [List.take_succ_eq_append_getElem (by omega), List.map_append, List.map_cons, List.map_nil, runC_snoc, runC_good h j (by omega), hst]
    rw [hget] at h0 hg ⊢
    unfold stepC
    simp only []
    rw [has_10, trim_10, lineR_good hg, if_pos ⟨rfl, h0⟩]
/-- Where a byte of a log stands. -/
theorem txt_at {es : List Ev} (h : ∀ e ∈ es, evG e) : ∀ {i : Nat}, i < (txtE es).length → bu (txtE es) i ≠ 10 → ∃ j p, ∃ (hj : j < es.length), p < (evT es[j]).length ∧ ends ((txtE es).take i) = j ∧ txtE es = txtE (es.take j) ++ (evT es[j] ++ 10 :: txtE (es.drop (j + 1))) ∧ i = (txtE (es.take j)).length + p := by
  induction es with
  | nil => intro i hi; simp [txtE] at hi
  | cons e es ih =>
    intro i hi hb
    have hno := evT_no10 (h e (by simp))
    rw [txtE_cons] at hi hb
    rcases Nat.lt_trichotomy i (evT e).length with hlt | heq | hgt
    · refine ⟨0, i, by simp, hlt, ?_, ?_, by simp [txtE]⟩
      · rw [txtE_cons, List.take_append_of_le_length (by omega)]
        exact ends_none fun c hc => hno c (List.mem_of_mem_take hc)
      · rw [txtE_cons]; simp [txtE]
    · subst heq
      rw [bu_at] at hb
      exact absurd rfl hb
    · obtain ⟨m, rfl⟩ : ∃ m, i = (evT e).length + 1 + m := ⟨i - ((evT e).length + 1), by omega⟩
      rw [bu_right] at hb
      obtain ⟨j, p, hj, h1, h2, h3, h4⟩ := ih (fun d hd => h d (by simp [hd])) (i := m) (by rw [List.length_append, List.length_cons] at hi; omega) hb
      refine ⟨j + 1, p, by simp; omega, h1, ?_, ?_, ?_⟩
      · rw [txtE_cons, show evT e ++ 10 :: txtE es = (evT e ++ [10]) ++ txtE es by simp, show (evT e).length + 1 + m = (evT e ++ [10]).length + m by simp, List.take_length_add_append]
        unfold ends
        rw [List.countP_append, List.countP_append]
        have := ends_none hno
        unfold ends at this h2
        rw [this, h2]; simp; omega
      · rw [txtE_cons, List.take_succ_cons, txtE_cons, List.drop_succ_cons]
        show _ = evT e ++ 10 :: txtE (es.take j) ++ (evT es[j] ++ 10 :: txtE (es.drop (j + 1)))
        conv => lhs; rw [h3]
        simp
      · rw [List.take_succ_cons, txtE_cons]
        simp only [List.length_append, List.length_cons]
        omega
/-- The lines of a log with one byte turned. -/
theorem chunks_turned {es : List Ev} (h : ∀ e ∈ es, evG e) {i : Nat} {c : UInt8} (hi : i < (txtE es).length) (hb : bu (txtE es) i ≠ 10) (hc : c ≠ 10) (hne : c ≠ bu (txtE es) i) :
    ∃ j p rest, ∃ (hj : j < es.length), ends ((txtE es).take i) = j ∧ p < (evT es[j]).length ∧ c ≠ bu (evT es[j]) p ∧ chunks ((txtE es).set i c) = ((es.take j).map fun e => evT e ++ [10]) ++ ((evT es[j]).set p c ++ [10]) :: rest := by
  obtain ⟨j, p, hj, h1, h2, h3, rfl⟩ := txt_at h hi hb
  have hg := h _ (List.getElem_mem hj)
  refine ⟨j, p, chunks (txtE (es.drop (j + 1))), hj, h2, h1, ?_, ?_⟩
  · rw [h3] at hne
    unfold bu at hne ⊢
    rw [List.getElem?_append_right (by omega), show (txtE (es.take j)).length + p - (txtE (es.take j)).length = p by omega, List.getElem?_append_left h1] at hne
    exact hne
  · rw [h3, List.set_append_right _ _ (by omega), show (txtE (es.take j)).length + p - (txtE (es.take j)).length = p by omega, List.set_append_left _ _ h1]
    have hno : ∀ x ∈ (evT es[j]).set p c, x ≠ 10 := fun x hx => by
      rcases List.mem_or_eq_of_mem_set hx with h | h
      · exact evT_no10 hg x h
      · rw [h]; exact hc
    have key : ∀ (l : List Ev), (∀ e ∈ l, evG e) → ∀ q, chunks (txtE l ++ q) = (l.map fun e => evT e ++ [10]) ++ chunks q := by
      intro l
      induction l with
      | nil => intro _ q; rfl
      | cons e l ih =>
        intro hl q
        rw [txtE_cons, List.append_assoc, List.cons_append, chunks_cut _ _ (evT_no10 (hl e (by simp))), ih (fun d hd => hl d (by simp [hd]))]
        rfl
    rw [key _ (fun e he => h e (List.mem_of_mem_take he)), chunks_cut _ _ hno]
/-- What Open says of it. -/
theorem opens_turned {es : List Ev} {s0 : BS} (hlog : Logs es s0) {i : Nat} {c : UInt8} (hi : i < (txtE es).length) (hb : bu (txtE es) i ≠ 10) (hc : c ≠ 10) (hne : c ≠ bu (txtE es) i) {w w' : World} {e : Ending} (h : OpenSays w ((txtE es).set i c) e w') :
    ∃ k : Int, (k = 2 ∨ k = 6) ∧ e = .returned (.tuple #[.pointer none, .int .i64 ((ends ((txtE es).take i) : Nat) + 1 : Int), errV k]) := by
  obtain ⟨j, p, rest, hj, he, hp, hcp, hch⟩ := chunks_turned hlog.txt.2.2.2 hi hb hc hne
  rw [he]
  have hgood := runC_good hlog j (by omega)
  obtain ⟨_, h2⟩ := hlog.at_.2 j (by omega)
  obtain ⟨h0, hg, hst⟩ := h2 hj
  have hget : es.getD j (.cut 0 0) = es[j] := by rw [List.getD_eq_getElem?_getD, List.getElem?_eq_getElem hj]; rfl
  rw [hget] at h0 hg
  have hT := fun s => turned hg h0 s (b := c) hp hcp
  have hmany : (stE es j).many = j := by
    have := (hlog.at_.2 j (by omega)).1.txt.2.1
    rw [this, List.length_take]; omega
  have hlen : ((es.take j).map fun e => evT e ++ [10]).length = j := by rw [List.length_map, List.length_take]; omega
  have hbad : ∀ t, runC (((es.take j).map fun e => evT e ++ [10]) ++ ((evT es[j]).set p c ++ [10]) :: t) = none := fun t => by
    rw [runC_app, hgood]
    show t.foldl stepC (stepC (some (stE es j)) ((evT es[j]).set p c ++ [10])) = none
    have : stepC (some (stE es j)) ((evT es[j]).set p c ++ [10]) = none := by
      unfold stepC
      simp only []
      rw [has_10, trim_10, if_neg]
      intro hh
      rcases hT (stE es j) with q | q
      · rw [q] at hh; exact absurd hh.2 (by decide)
      · rw [q] at hh; exact absurd hh.2 (by decide)
    rw [this]
    exact foldl_none t
  -- a beginning that reaches behind the bad line came to nothing
  have hshort : ∀ (pre : List (List UInt8)) (t : List (List UInt8)) (s : BS), chunks ((txtE es).set i c) = pre ++ t → runC pre = some s → pre.length ≤ j := fun pre t s h1 h2 => by
    rcases Nat.lt_or_ge j pre.length with hlt | hge
    · exfalso
      rw [hch] at h1
      have h3 : pre = ((es.take j).map fun e => evT e ++ [10]) ++ ((evT es[j]).set p c ++ [10]) :: (pre.drop (j + 1)) := by
        have h4 := congrArg (List.take (j + 1)) h1
        rw [List.take_append_of_le_length (show j + 1 ≤ pre.length by omega)] at h4
        rw [show ((es.take j).map fun e => evT e ++ [10]) ++ ((evT es[j]).set p c ++ [10]) :: rest = (((es.take j).map fun e => evT e ++ [10]) ++ [((evT es[j]).set p c ++ [10])]) ++ rest by simp, List.take_append_of_le_length (by simp; omega), List.take_of_length_le (by simp; omega)] at h4
        conv => lhs; rw [← List.take_append_drop (j + 1) pre, ← h4]
        simp
      rw [h3, hbad] at h2
      cases h2
    · exact hge
  have hat : ∀ (pre : List (List UInt8)) (x : List UInt8) (t : List (List UInt8)), chunks ((txtE es).set i c) = pre ++ x :: t → pre.length ≤ j → (pre.length = j ∧ x = (evT es[j]).set p c ++ [10] ∧ pre = (es.take j).map fun e => evT e ++ [10]) ∨ (∃ (hk : pre.length < es.length), pre.length < j ∧ x = evT es[pre.length] ++ [10] ∧ pre = (es.take pre.length).map fun e => evT e ++ [10]) := fun pre x t h1 h2 => by
    rw [hch] at h1
    have hpre : pre = (((es.take j).map fun e => evT e ++ [10]) ++ ((evT es[j]).set p c ++ [10]) :: rest).take pre.length := by rw [h1, List.take_left]
    have hx : (((es.take j).map fun e => evT e ++ [10]) ++ ((evT es[j]).set p c ++ [10]) :: rest)[pre.length]? = some x := by rw [h1]; simp
    rcases Nat.eq_or_lt_of_le h2 with heq | hlt
    · refine .inl ⟨heq, ?_, ?_⟩
      · rw [heq, List.getElem?_append_right (by omega), hlen, Nat.sub_self] at hx
        exact (Option.some.inj hx).symm
      · rw [heq, List.take_append_of_le_length (by omega), List.take_of_length_le (by omega)] at hpre
        exact hpre
    · refine .inr ⟨by omega, hlt, ?_, ?_⟩
      · rw [List.getElem?_append_left (by omega), List.getElem?_map, List.getElem?_take, if_pos hlt, List.getElem?_eq_getElem (by omega)] at hx
        exact (Option.some.inj hx).symm
      · rw [List.take_append_of_le_length (by omega), ← List.map_take, List.take_take, Nat.min_eq_left (by omega)] at hpre
        exact hpre
  rcases h with ⟨s, pre, b, hpre, hrun, _, _⟩ | ⟨s, pre, x, t, hpre, hrun, hsuf, hl, rfl⟩
  · exfalso
    rcases hpre with rfl | ⟨x, t, hx, hsuf⟩
    · have := hshort _ [] s (by simp) hrun
      rw [hch] at this
      simp only [List.length_append, List.length_cons] at this
      omega
    · have hle := hshort _ _ s hx hrun
      rcases hat _ _ _ hx hle with ⟨_, rfl, _⟩ | ⟨_, _, rfl, _⟩
      · rw [has_10] at hsuf; cases hsuf
      · rw [has_10] at hsuf; cases hsuf
  · have hle := hshort _ _ s hpre hrun
    rcases hat _ _ _ hpre hle with ⟨_, rfl, h5⟩ | ⟨hk, hlt, rfl, h5⟩
    · rw [h5, hgood] at hrun
      obtain rfl := Option.some.inj hrun
      rw [trim_10] at hl ⊢
      rw [lineR_err hl, hmany]
      exact ⟨_, hT _, rfl⟩
    · exfalso
      obtain ⟨_, q2⟩ := hlog.at_.2 pre.length (by omega)
      obtain ⟨q0, qg, _⟩ := q2 hk
      have hget2 : es.getD pre.length (.cut 0 0) = es[pre.length] := by rw [List.getD_eq_getElem?_getD, List.getElem?_eq_getElem hk]; rfl
      rw [hget2] at q0 qg
      have := runC_good hlog pre.length (by omega)
      rw [← h5, hrun] at this
      obtain rfl := Option.some.inj this
      rw [trim_10, lineR_good qg] at hl
      exact hl q0
end Go.Proofs.YteoofkinmilckaaGreatDoor
