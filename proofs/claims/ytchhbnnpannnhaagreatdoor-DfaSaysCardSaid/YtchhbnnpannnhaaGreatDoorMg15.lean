/- Texts joined, each with its own conditions. (1) The shortest text that a machine takes, in plain Lean. No condition. (2) The document's place and Leads. No condition. -/
import Derived.Test.YtchhbnnpannnhaaGreatDoorMg8
import Derived.Test.YtchhbnnpannnhaaGreatDoorMg7
import Derived.BigQuiet
import Derived.Deep.QuietTactic
namespace Go.Proofs.YtchhbnnpannnhaaGreatDoor
set_option linter.unusedVariables false

/-- Does a text stand ahead of another one? -/
def bef : List UInt8 → List UInt8 → Bool
  | _, [] => false
  | [], _ :: _ => true
  | a :: x, b :: y => if a = b then bef x y else decide (a < b)
theorem bef_irr : ∀ x : List UInt8, bef x x = false
  | [] => rfl
  | a :: x => by unfold bef; rw [if_pos rfl]; exact bef_irr x
theorem bef_trans : ∀ {x y z : List UInt8}, x.length = y.length → y.length = z.length → bef x y = true → bef y z = true → bef x z = true
  | [], y, z, h1, h2, hx, hy => by
    cases y with
    | nil => simp [bef] at hx
    | cons => simp at h1
  | a :: x, [], z, h1, h2, hx, hy => by simp at h1
  | a :: x, b :: y, [], h1, h2, hx, hy => by simp at h2
  | a :: x, b :: y, c :: z, h1, h2, hx, hy => by
    unfold bef at hx hy ⊢
    by_cases e1 : a = b
    · subst e1
      rw [if_pos rfl] at hx
      by_cases e2 : a = c
      · subst e2
        rw [if_pos rfl] at hy ⊢
        exact bef_trans (by simpa using h1) (by simpa using h2) hx hy
      · rw [if_neg e2] at hy ⊢; exact hy
    · rw [if_neg e1] at hx
      by_cases e2 : b = c
      · subst e2; rw [if_neg e1]; exact hx
      · rw [if_neg e2] at hy
        have g1 := of_decide_eq_true hx
        have g2 := of_decide_eq_true hy
        have g3 : a < c := by rw [UInt8.lt_iff_toNat_lt] at *; omega
        rw [if_neg (fun e => by subst e; rw [UInt8.lt_iff_toNat_lt] at *; omega)]
        exact decide_eq_true g3
theorem bef_tot : ∀ {x y : List UInt8}, x.length = y.length → bef x y = false → bef y x = false → x = y
  | [], [], _, _, _ => rfl
  | [], b :: y, h, _, _ => by simp at h
  | a :: x, [], h, _, _ => by simp at h
  | a :: x, b :: y, h, hx, hy => by
    unfold bef at hx hy
    by_cases e : a = b
    · subst e
      rw [if_pos rfl] at hx hy
      rw [bef_tot (by simpa using h) hx hy]
    · rw [if_neg e] at hx
      rw [if_neg (fun h => e h.symm)] at hy
      have g1 := of_decide_eq_false hx
      have g2 := of_decide_eq_false hy
      exact absurd (UInt8.toNat.inj (by rw [UInt8.lt_iff_toNat_lt] at *; omega)) e
theorem bef_app : ∀ {x y : List UInt8}, x.length = y.length → bef x y = true → ∀ u v, bef (x ++ u) (y ++ v) = true
  | [], y, h, hx, u, v => by
    cases y with
    | nil => simp [bef] at hx
    | cons => simp at h
  | a :: x, [], h, hx, u, v => by simp at h
  | a :: x, b :: y, h, hx, u, v => by
    rw [List.cons_append, List.cons_append]
    unfold bef at hx ⊢
    by_cases e : a = b
    · rw [if_pos e] at hx ⊢; exact bef_app (by simpa using h) hx u v
    · rw [if_neg e] at hx ⊢; exact hx
theorem bef_end : ∀ (x : List UInt8) {c d : UInt8}, c < d → bef (x ++ [c]) (x ++ [d]) = true
  | [], c, d, h => by
    show bef [c] [d] = true
    unfold bef
    rw [if_neg (fun e => by subst e; rw [UInt8.lt_iff_toNat_lt] at h; omega)]; exact decide_eq_true h
  | a :: x, c, d, h => by
    rw [List.cons_append, List.cons_append]; unfold bef; rw [if_pos rfl]; exact bef_end x h
/-- Shorter, or as short and ahead. -/
def Lt (x y : List UInt8) : Prop := x.length < y.length ∨ x.length = y.length ∧ bef x y = true
def Le (x y : List UInt8) : Prop := x = y ∨ Lt x y
theorem Lt.trans {x y z : List UInt8} (h : Lt x y) (h' : Lt y z) : Lt x z := by
  rcases h with h | ⟨h, hb⟩ <;> rcases h' with h' | ⟨h', hb'⟩
  · exact .inl (by omega)
  · exact .inl (by omega)
  · exact .inl (by omega)
  · exact .inr ⟨h.trans h', bef_trans h h' hb hb'⟩
theorem Le.trans {x y z : List UInt8} (h : Le x y) (h' : Le y z) : Le x z := by
  rcases h with rfl | h
  · exact h'
  · rcases h' with rfl | h'
    · exact .inr h
    · exact .inr (h.trans h')
theorem Lt.app {x y : List UInt8} (h : Lt x y) (c d : UInt8) : Lt (x ++ [c]) (y ++ [d]) := by
  rcases h with h | ⟨h, hb⟩
  · exact .inl (by simp; omega)
  · exact .inr ⟨by simp [h], bef_app h hb _ _⟩
theorem Le.app {x y : List UInt8} (h : Le x y) (c : UInt8) : Le (x ++ [c]) (y ++ [c]) := by
  rcases h with rfl | h
  · exact .inl rfl
  · exact .inr (h.app c c)
theorem Lt.irr {x : List UInt8} (h : Lt x x) : False := by
  rcases h with h | ⟨_, h⟩
  · omega
  · rw [bef_irr] at h; cases h
/-- What the statement asks of two. -/
theorem Le.says {x y : List UInt8} (h : Le x y) : x.length < y.length ∨ x.length = y.length ∧ bef y x = false := by
  rcases h with rfl | h | ⟨h, hb⟩
  · exact .inr ⟨rfl, bef_irr _⟩
  · exact .inl h
  · refine .inr ⟨h, ?_⟩
    cases he : bef y x with
    | false => rfl
    | true =>
      have := bef_trans h h.symm hb he
      rw [bef_irr] at this; cases this

/-- What is still to be looked at (a state and the text that leads there), and what was met. -/
def pushG (M : Mc) (i : Nat) (x : List UInt8) (Q : List (Nat × List UInt8)) (S : List Nat) : Nat → List (Nat × List UInt8) × List Nat
  | 0 => (Q, S)
  | c + 1 => if M.st i c ∈ (pushG M i x Q S c).2 then pushG M i x Q S c else ((pushG M i x Q S c).1 ++ [(M.st i c, x ++ [bu M.sg c])], (pushG M i x Q S c).2 ++ [M.st i c])
inductive Run (M : Mc) : List (Nat × List UInt8) → List Nat → Option (List UInt8) → Prop
  | nil (S : List Nat) : Run M [] S none
  | hit {i : Nat} {x : List UInt8} (Q : List (Nat × List UInt8)) (S : List Nat) : bo M.tk i = true → Run M ((i, x) :: Q) S (some x)
  | step {i : Nat} {x : List UInt8} {Q : List (Nat × List UInt8)} {S : List Nat} {r : Option (List UInt8)} : bo M.tk i = false → Run M (pushG M i x Q S M.s).1 (pushG M i x Q S M.s).2 r → Run M ((i, x) :: Q) S r
theorem Run.det {M : Mc} {Q : List (Nat × List UInt8)} {S : List Nat} {r : Option (List UInt8)} (h : Run M Q S r) : ∀ {r'}, Run M Q S r' → r = r' := by
  induction h with
  | nil S => intro r' h'; cases h'; rfl
  | hit Q S ht =>
    intro r' h'
    cases h' with
    | hit _ _ _ => rfl
    | step hf _ => rw [ht] at hf; cases hf
  | step hf _ ih =>
    intro r' h'
    cases h' with
    | hit _ _ ht => rw [ht] at hf; cases hf
    | step _ h' => exact ih h'

/-- Where a text leads. -/
def Mc.leadB (M : Mc) : Nat → List UInt8 → Option Nat
  | i, [] => some i
  | i, c :: w => if c ∈ M.sg then M.leadB (M.st i (M.sg.idxOf c)) w else none
def Mc.takesB (M : Mc) (y : List UInt8) : Bool := match M.leadB 0 y with
  | some j => bo M.tk j
  | none => false
theorem Mc.leadB_app {M : Mc} {x : List UInt8} : ∀ {i : Nat} {y : List UInt8}, M.leadB i (x ++ y) = (M.leadB i x).bind fun j => M.leadB j y := by
  induction x with
  | nil => intro i y; rfl
  | cons c x ih =>
    intro i y
    rw [show M.leadB i ((c :: x) ++ y) = if c ∈ M.sg then M.leadB (M.st i (M.sg.idxOf c)) (x ++ y) else none from rfl, show M.leadB i (c :: x) = if c ∈ M.sg then M.leadB (M.st i (M.sg.idxOf c)) x else none from rfl]
    by_cases h : c ∈ M.sg
    · rw [if_pos h, if_pos h, ih]
    · rw [if_neg h, if_neg h]; rfl
theorem Mc.Ok.leadB_lt {M : Mc} (h : M.Ok) {w : List UInt8} : ∀ {i j : Nat}, i < M.n → M.leadB i w = some j → j < M.n := by
  induction w with
  | nil => intro i j hi he; unfold Mc.leadB at he; injection he with he; omega
  | cons c w ih =>
    intro i j hi he
    unfold Mc.leadB at he
    by_cases hc : c ∈ M.sg
    · rw [if_pos hc] at he; exact ih (h.st_lt hi (List.idxOf_lt_length_of_mem hc)) he
    · rw [if_neg hc] at he; cases he
theorem riseL {sg : List UInt8} (h : ∀ i, i + 1 < sg.length → bu sg i < bu sg (i + 1)) : ∀ k i, i < k → k < sg.length → bu sg i < bu sg k
  | 0, i, hi, _ => absurd hi (by omega)
  | k + 1, i, hi, hk => by
    have h1 := h k hk
    rcases Nat.lt_or_ge i k with hl | hl
    · have := riseL h k i hl (by omega)
      rw [UInt8.lt_iff_toNat_lt] at *; omega
    · obtain rfl : i = k := by omega
      exact h1
theorem rise_idx {sg : List UInt8} (h : ∀ i, i + 1 < sg.length → bu sg i < bu sg (i + 1)) {c : Nat} (hc : c < sg.length) : sg.idxOf (bu sg c) = c := by
  have hm : bu sg c ∈ sg := bu_mem hc
  have hl := List.idxOf_lt_length_of_mem hm
  have he : bu sg (sg.idxOf (bu sg c)) = bu sg c := by rw [bu_eq hl, List.getElem_idxOf hl]
  rcases Nat.lt_trichotomy (sg.idxOf (bu sg c)) c with q | q | q
  · have := riseL h _ _ q hc
    rw [he, UInt8.lt_iff_toNat_lt] at this; omega
  · exact q
  · have := riseL h _ _ q hl
    rw [he, UInt8.lt_iff_toNat_lt] at this; omega
theorem Mc.Ok.leadB_snoc {M : Mc} (h : M.Ok) {x : List UInt8} {i c : Nat} (hx : M.leadB 0 x = some i) (hc : c < M.s) : M.leadB 0 (x ++ [bu M.sg c]) = some (M.st i c) := by
  rw [Mc.leadB_app, hx]
  show M.leadB i [bu M.sg c] = _
  unfold Mc.leadB
  rw [if_pos (bu_mem hc), rise_idx h.rise hc]
  rfl

/-- What holds while looking: P were looked at, none of them takes. -/
structure Shy (M : Mc) (P Q : List (Nat × List UInt8)) (S : List Nat) : Prop where
  lead : ∀ p ∈ P ++ Q, M.leadB 0 p.2 = some p.1
  met : ∀ i, i ∈ S ↔ ∃ x, (i, x) ∈ P ++ Q
  no : ∀ p ∈ P, bo M.tk p.1 = false
  up : (P ++ Q).Pairwise fun p q => Lt p.2 q.2
  next : ∀ p ∈ P, ∀ c, c < M.s → ∃ q ∈ P ++ Q, q.1 = M.st p.1 c ∧ Le q.2 (p.2 ++ [bu M.sg c])
  gen : ∀ q ∈ Q, q.2 = [] ∧ P = [] ∨ ∃ p ∈ P, ∃ c, c < M.s ∧ q.2 = p.2 ++ [bu M.sg c]
theorem Shy.start (M : Mc) : Shy M [] [(0, [])] [0] :=
  ⟨fun p hp => by rw [List.mem_singleton.1 hp]; rfl, fun i => by simp, fun p hp => absurd hp (by simp), by simp, fun p hp => absurd hp (by simp), fun q hq => .inl ⟨by rw [List.mem_singleton.1 hq], rfl⟩⟩
/-- Every text leads to one that was looked at by a text that is no greater, or has one among those to be looked at that is no greater. -/
theorem Shy.reach {M : Mc} (hM : M.Ok) {P Q : List (Nat × List UInt8)} {S : List Nat} (h : Shy M P Q S) (h0 : ∃ q ∈ P ++ Q, q = (0, [])) : ∀ (r : List UInt8) {j : Nat}, M.leadB 0 r.reverse = some j → (∃ p ∈ P, p.1 = j ∧ Le p.2 r.reverse) ∨ ∃ q ∈ Q, Le q.2 r.reverse
  | [], j, hj => by
    obtain ⟨q, hq, rfl⟩ := h0
    rcases List.mem_append.1 hq with hq | hq
    · left; refine ⟨_, hq, ?_, .inl rfl⟩
      injection hj
    · right; exact ⟨_, hq, .inl rfl⟩
  | c :: r, j, hj => by
    rw [List.reverse_cons] at hj ⊢
    rw [Mc.leadB_app] at hj
    cases hr : M.leadB 0 r.reverse with
    | none => rw [hr] at hj; cases hj
    | some i =>
      rw [hr] at hj
      have hj : M.leadB i [c] = some j := hj
      unfold Mc.leadB at hj
      by_cases hc : c ∈ M.sg
      · rw [if_pos hc] at hj
        have hj : some (M.st i (M.sg.idxOf c)) = some j := hj
        injection hj with hj
        have hl := List.idxOf_lt_length_of_mem hc
        have hb : bu M.sg (M.sg.idxOf c) = c := by rw [bu_eq hl, List.getElem_idxOf hl]
        rcases Shy.reach hM h h0 r hr with ⟨p, hp, rfl, hle⟩ | ⟨q, hq, hle⟩
        · obtain ⟨q, hq, e, hq2⟩ := h.next p hp _ hl
          rw [hb] at hq2
          have hle2 := hq2.trans (hle.app c)
          rcases List.mem_append.1 hq with hq | hq
          · exact .inl ⟨q, hq, by rw [e]; exact hj, hle2⟩
          · exact .inr ⟨q, hq, hle2⟩
        · refine .inr ⟨q, hq, hle.trans (.inr (.inl ?_))⟩
          simp
      · rw [if_neg hc] at hj; cases hj
theorem Shy.push {M : Mc} (hM : M.Ok) {P Q : List (Nat × List UInt8)} {S : List Nat} {i : Nat} {x : List UInt8} (h : Shy M P ((i, x) :: Q) S) (ht : bo M.tk i = false) :
    ∀ c, c ≤ M.s → (∀ p ∈ P ++ (i, x) :: (pushG M i x Q S c).1, M.leadB 0 p.2 = some p.1) ∧ (∀ k, k ∈ (pushG M i x Q S c).2 ↔ ∃ y, (k, y) ∈ P ++ (i, x) :: (pushG M i x Q S c).1) ∧
      (P ++ (i, x) :: (pushG M i x Q S c).1).Pairwise (fun p q => Lt p.2 q.2) ∧ (∃ l, (pushG M i x Q S c).1 = Q ++ l ∧ ∀ q ∈ l, ∃ d, d < c ∧ q.2 = x ++ [bu M.sg d]) ∧
      (∀ d, d < c → ∃ q ∈ P ++ (i, x) :: (pushG M i x Q S c).1, q.1 = M.st i d ∧ Le q.2 (x ++ [bu M.sg d]))
  | 0, _ => ⟨h.lead, h.met, h.up, ⟨[], by simp [pushG]⟩, fun d hd => absurd hd (by omega)⟩
  | c + 1, hc => by
    obtain ⟨h1, h2, h3, ⟨l, h4, h5⟩, h6⟩ := Shy.push hM h ht c (by omega)
    rw [show pushG M i x Q S (c + 1) = if M.st i c ∈ (pushG M i x Q S c).2 then pushG M i x Q S c else ((pushG M i x Q S c).1 ++ [(M.st i c, x ++ [bu M.sg c])], (pushG M i x Q S c).2 ++ [M.st i c]) from rfl]
    have hx : M.leadB 0 x = some i := h1 (i, x) (by simp)
    have hnew := hM.leadB_snoc hx (c := c) (by omega)
    -- all that was met so far lies ahead of the new text
    have hlt : ∀ q ∈ P ++ (i, x) :: (pushG M i x Q S c).1, Lt q.2 (x ++ [bu M.sg c]) := by
      have hup := h.up
      rw [List.pairwise_append] at hup
      obtain ⟨u1, u2, u3⟩ := hup
      have hPx : ∀ p ∈ P, Lt p.2 x := fun p hp => u3 p hp (i, x) (List.mem_cons_self ..)
      have hxx : Lt x (x ++ [bu M.sg c]) := .inl (by simp)
      intro q hq
      rcases List.mem_append.1 hq with hq | hq
      · exact (hPx q hq).trans hxx
      rcases List.mem_cons.1 hq with rfl | hq
      · exact hxx
      rw [h4] at hq
      rcases List.mem_append.1 hq with hq | hq
      · rcases h.gen q (List.mem_cons_of_mem _ hq) with ⟨e, _⟩ | ⟨p, hp, d, hd, e⟩
        · have := List.rel_of_pairwise_cons u2 hq
          rw [e] at this
          rcases this with q | ⟨q, _⟩
          · simp at q
          · exact .inl (by rw [e]; simp)
        · rw [e]; exact (hPx p hp).app _ _
      · obtain ⟨d, hd, e⟩ := h5 q hq
        rw [e]
        exact .inr ⟨by simp, bef_end x (riseL hM.rise c d hd (Nat.lt_of_succ_le hc))⟩
    by_cases hm : M.st i c ∈ (pushG M i x Q S c).2
    · rw [if_pos hm]
      refine ⟨h1, h2, h3, ⟨l, h4, fun q hq => ?_⟩, fun d hd => ?_⟩
      · obtain ⟨d, hd, e⟩ := h5 q hq
        exact ⟨d, by omega, e⟩
      · rcases Nat.lt_or_ge d c with hl | hl
        · exact h6 d hl
        · obtain rfl : d = c := by omega
          obtain ⟨y, hy⟩ := (h2 _).1 hm
          exact ⟨_, hy, rfl, .inr (hlt _ hy)⟩
    · rw [if_neg hm]
      simp only []
      generalize (pushG M i x Q S c).1 = q1 at *
      generalize (pushG M i x Q S c).2 = s1 at *
      have e : P ++ (i, x) :: (q1 ++ [(M.st i c, x ++ [bu M.sg c])]) = (P ++ (i, x) :: q1) ++ [(M.st i c, x ++ [bu M.sg c])] := by simp
      rw [e]
      refine ⟨fun p hp => ?_, fun k => ?_, ?_, ⟨l ++ [(M.st i c, x ++ [bu M.sg c])], by rw [h4, List.append_assoc], fun q hq => ?_⟩, fun d hd => ?_⟩
      · rcases List.mem_append.1 hp with hp | hp
        · exact h1 p hp
        · rw [List.mem_singleton.1 hp]; exact hnew
      · rw [List.mem_append, h2 k, List.mem_singleton]
        constructor
        · rintro (⟨y, hy⟩ | rfl)
          · exact ⟨y, List.mem_append_left _ hy⟩
          · exact ⟨x ++ [bu M.sg c], List.mem_append_right _ (List.mem_singleton.2 rfl)⟩
        · rintro ⟨y, hy⟩
          rcases List.mem_append.1 hy with hy | hy
          · exact .inl ⟨y, hy⟩
          · have := List.mem_singleton.1 hy
            injection this with e1 e2
            exact .inr e1
      · rw [List.pairwise_append]
        exact ⟨h3, by simp, fun a ha b hb => by rw [List.mem_singleton.1 hb]; exact hlt a ha⟩
      · rcases List.mem_append.1 hq with hq | hq
        · obtain ⟨d, hd, e⟩ := h5 q hq
          exact ⟨d, by omega, e⟩
        · exact ⟨c, by omega, by rw [List.mem_singleton.1 hq]⟩
      · rcases Nat.lt_or_ge d c with hl | hl
        · obtain ⟨q, hq, e1, e2⟩ := h6 d hl
          exact ⟨q, List.mem_append_left _ hq, e1, e2⟩
        · obtain rfl : d = c := by omega
          exact ⟨_, List.mem_append_right _ (List.mem_singleton.2 rfl), rfl, .inl rfl⟩
theorem Shy.step {M : Mc} (hM : M.Ok) {P Q : List (Nat × List UInt8)} {S : List Nat} {i : Nat} {x : List UInt8} (h : Shy M P ((i, x) :: Q) S) (ht : bo M.tk i = false) :
    Shy M (P ++ [(i, x)]) (pushG M i x Q S M.s).1 (pushG M i x Q S M.s).2 := by
  obtain ⟨h1, h2, h3, ⟨l, h4, h5⟩, h6⟩ := Shy.push hM h ht M.s (Nat.le_refl _)
  have e : ∀ q, P ++ [(i, x)] ++ q = P ++ (i, x) :: q := fun q => by simp
  refine ⟨by rw [e]; exact h1, by rw [e]; exact h2, fun p hp => ?_, by rw [e]; exact h3, fun p hp c hc => ?_, fun q hq => ?_⟩
  · rcases List.mem_append.1 hp with hp | hp
    · exact h.no p hp
    · rw [List.mem_singleton.1 hp]; exact ht
  · rw [e]
    rcases List.mem_append.1 hp with hp | hp
    · obtain ⟨q, hq, e1, e2⟩ := h.next p hp c hc
      refine ⟨q, ?_, e1, e2⟩
      rw [h4]
      rcases List.mem_append.1 hq with hq | hq
      · exact List.mem_append_left _ hq
      · rcases List.mem_cons.1 hq with rfl | hq
        · exact List.mem_append_right _ (List.mem_cons_self ..)
        · exact List.mem_append_right _ (List.mem_cons_of_mem _ (List.mem_append_left _ hq))
    · rw [List.mem_singleton.1 hp]; exact h6 c hc
  · rw [h4] at hq
    rcases List.mem_append.1 hq with hq | hq
    · rcases h.gen q (List.mem_cons_of_mem _ hq) with ⟨e1, e2⟩ | ⟨p, hp, d, hd, e⟩
      · have hup := h.up
        rw [List.pairwise_append] at hup
        have := List.rel_of_pairwise_cons hup.2.1 hq
        rw [e1] at this
        rcases this with q | ⟨q, hb⟩
        · simp at q
        · have : x = [] := List.length_eq_zero_iff.1 q
          subst this; simp [bef] at hb
      · exact .inr ⟨p, List.mem_append_left _ hp, d, hd, e⟩
    · obtain ⟨d, hd, e⟩ := h5 q hq
      exact .inr ⟨(i, x), List.mem_append_right _ (List.mem_singleton.2 rfl), d, hd, e⟩
/-- What was found says it: the least of the shortest texts that are taken, or none is. -/
def Found (M : Mc) : Option (List UInt8) → Prop
  | some x => M.takesB x = true ∧ ∀ y, M.takesB y = true → Le x y
  | none => ∀ y, M.takesB y = false
/-- What the looking finds. -/
theorem Run.says {M : Mc} (hM : M.Ok) {Q : List (Nat × List UInt8)} {S : List Nat} {r : Option (List UInt8)} (h : Run M Q S r) : ∀ {P}, Shy M P Q S → (∃ q ∈ P ++ Q, q = (0, [])) → Found M r := by
  induction h with
  | nil S =>
    intro P hs h0 y
    unfold Mc.takesB
    cases hy : M.leadB 0 y with
    | none => rfl
    | some j =>
      have := hs.reach hM h0 y.reverse (j := j) (by rw [List.reverse_reverse]; exact hy)
      rcases this with ⟨p, hp, rfl, _⟩ | ⟨q, hq, _⟩
      · exact hs.no p hp
      · cases hq
  | @hit i x Q S ht =>
    intro P hs h0
    refine ⟨?_, fun y hy => ?_⟩
    · unfold Mc.takesB
      rw [hs.lead (i, x) (by simp)]; exact ht
    · unfold Mc.takesB at hy
      cases hl : M.leadB 0 y with
      | none => rw [hl] at hy; cases hy
      | some j =>
        rw [hl] at hy
        have := hs.reach hM h0 y.reverse (j := j) (by rw [List.reverse_reverse]; exact hl)
        rw [List.reverse_reverse] at this
        rcases this with ⟨p, hp, rfl, _⟩ | ⟨q, hq, hle⟩
        · have hy : bo M.tk p.1 = true := hy
          rw [hs.no p hp] at hy; cases hy
        · rcases List.mem_cons.1 hq with rfl | hq
          · exact hle
          · have hup := hs.up
            rw [List.pairwise_append] at hup
            exact Le.trans (.inr (List.rel_of_pairwise_cons hup.2.1 hq)) hle
  | @step i x Q S r ht _ ih =>
    intro P hs h0
    obtain ⟨q, hq, e⟩ := h0
    refine ih (hs.step hM ht) ⟨q, ?_, e⟩
    obtain ⟨_, _, _, ⟨l, h4, _⟩, _⟩ := Shy.push hM hs ht M.s (Nat.le_refl _)
    rw [h4]
    rcases List.mem_append.1 hq with hq | hq
    · exact List.mem_append_left _ (List.mem_append_left _ hq)
    · rcases List.mem_cons.1 hq with rfl | hq
      · exact List.mem_append_left _ (List.mem_append_right _ (List.mem_singleton.2 rfl))
      · exact List.mem_append_right _ (List.mem_append_left _ hq)
end Go.Proofs.YtchhbnnpannnhaaGreatDoor

namespace Go.Proofs.YtchhbnnpannnhaaGreatDoor
open Go.RowKit IntWalk
set_option linter.unusedSimpArgs false
set_option linter.unusedVariables false
attribute [local go_sem] byte_at str_app
attribute [local go_sem ↓] Go.wp_at_zero Go.wp_at_succ

theorem same_decL (x y : UInt8) : ((x.toNat : Int) == (y.toNat : Int)) = decide (x = y) := by
  by_cases h : x = y
  · subst h; simp
  · have : ¬ x.toNat = y.toNat := fun e => h (UInt8.toNat_inj.1 e)
    simp [h]; omega
theorem idx_at : ∀ {t : List UInt8} {c : UInt8} {i : Nat}, i < t.length → bu t i = c → (∀ j, j < i → bu t j ≠ c) → t.idxOf c = i
  | [], c, i, hi, _, _ => by simp at hi
  | a :: t, c, 0, hi, he, _ => by
    have : a = c := he
    subst this; simp
  | a :: t, c, i + 1, hi, he, hn => by
    have h0 : a ≠ c := hn 0 (by omega)
    have ih := idx_at (t := t) (c := c) (i := i) (by simpa using hi) he fun j hj => hn (j + 1) (by omega)
    have hb : (a == c) = false := by simpa using h0
    rw [List.idxOf_cons, hb, ih]; rfl
def plcV (t : List UInt8) (c : UInt8) : Int := if c ∈ t then (t.idxOf c : Int) else -1
set_option maxHeartbeats 400000 in
theorem placeD_any (t : List UInt8) (c : UInt8) (w : World) (ht : t.length ≤ 1000) :
    Calls Tryz.prog 36 #[S t, .int .u8 (c.toNat : Int)] w fun e w' => e = .returned (.int .i64 (plcV t c)) ∧ w' = w := by
  have HV : Hid (plcV t c = if c ∈ t then (t.idxOf c : Int) else -1) := Lib.hid rfl
  generalize plcV t c = z at *
  go_enter Tryz.func36, Tryz.ntmps36
  go_wp2_with fail
  go_loopg [5] t.length (fun f iv wr => ∃ i : Nat, i + f = t.length ∧ iv = .int .i64 (i : Int) ∧ Hid (∀ j, j < i → bu t j ≠ c) ∧ wr = w)
  case atStart => exact ⟨0, by omega, rfl, Lib.hid fun j hj => absurd hj (by omega), rfl⟩
  case round =>
    obtain ⟨i, hif, rfl, HN, rfl⟩ := hrel
    by_cases hi : i < t.length
    · obtain ⟨f, rfl⟩ : ∃ f, gk = f + 1 := ⟨gk - 1, by omega⟩
      have heb := same_decL (bu t i) c
      have p1 : (i : Int) < (t.length : Int) := by omega
      have p3 : IntKind.i64.wrap ((i : Int) + 1) = (i : Int) + 1 := i64_in _ (by omega)
      by_cases he : bu t i = c
      · have HA : Hid (z = (i : Int)) := Lib.hid (by rw [HV.out, if_pos (he ▸ bu_mem hi), idx_at hi he HN.out])
        rw [decide_eq_true he] at heb
        clear he
        go_wp2_with fail
        go_ret
        exact ⟨ret_int HA.out.symm, rfl⟩
      · have HS : Hid (∀ j, j < i + 1 → bu t j ≠ c) := Lib.hid fun j hj => by
          rcases Nat.lt_or_ge j i with hl | hl
          · exact HN.out j hl
          · obtain rfl : j = i := by omega
            exact he
        rw [decide_eq_false he] at heb
        clear he
        go_wp2_with fail
        go_roundg f
        case measure => omega
        case rel => exact ⟨i + 1, by omega, by simp, HS, rfl⟩
    · obtain rfl : i = t.length := by omega
      have HA : Hid (z = -1) := Lib.hid (by
        rw [HV.out, if_neg]
        intro hm
        obtain ⟨j, hj, e⟩ := List.getElem_of_mem hm
        exact HN.out j hj (by rw [bu_eq hj]; exact e))
      go_wp2_with fail
      go_ret
      exact ⟨ret_int HA.out.symm, rfl⟩

theorem leadB_takeA {M : Mc} {s : List UInt8} {b k a : Nat} (hk : k < s.length) (h : M.leadB b (s.take k) = some a) (hm : bu s k ∈ M.sg) : M.leadB b (s.take (k + 1)) = some (M.st a (M.sg.idxOf (bu s k))) := by
  rw [take_succ_bu hk, Mc.leadB_app, h]
  show M.leadB a [bu s k] = _
  unfold Mc.leadB; rw [if_pos hm]; try rfl
theorem leadB_noneA {M : Mc} {s : List UInt8} {b k a : Nat} (hk : k < s.length) (h : M.leadB b (s.take k) = some a) (hm : bu s k ∉ M.sg) : M.leadB b s = none := by
  have e : s = s.take k ++ (bu s k :: s.drop (k + 1)) := by
    have h1 : s.drop k = bu s k :: s.drop (k + 1) := by rw [List.drop_eq_getElem_cons hk]; unfold bu; rw [List.getElem?_eq_getElem hk]; rfl
    rw [← h1, List.take_append_drop]
  rw [e, Mc.leadB_app, h]
  show M.leadB a (bu s k :: _) = _
  rw [Mc.leadB, if_neg hm]
/-- What Leads answers. -/
def ledV (M : Mc) (b : Nat) (s : List UInt8) : Int := match M.leadB b s with
  | some j => (j : Int)
  | none => -1
set_option maxRecDepth 100000 in
set_option maxHeartbeats 4000000 in
theorem leads_any (M : Mc) (hO : M.Ok) (A A2 : Option Addr) (n c m c2 B b : Nat) (s : List UInt8) (w : World) (hM : MacW w B A n A2 m M) (hB : B ≤ w.heap.size) (hb : b < M.n) (hs : s.length ≤ 100000) :
    Calls Tryz.prog 18 #[mcv M.sg A n c A2 m c2, .int .i64 (b : Int), S s] w fun e w' => e = .returned (.int .i64 (ledV M b s)) ∧ Below w.heap.size w w' := by
  obtain ⟨c0, c1, c2'⟩ := mac_cells w M.sg A n c A2 m c2 25
  generalize hw1 : w.alloc (.cells #[S M.sg, .slice A n c, .slice A2 m c2] 25) = w1 at *
  have hb1 : Below w.heap.size w w1 := by rw [← hw1]; exact (Below.refl _ w).alloc (Nat.le_refl _) _
  have HB1 := Lib.hid hb1
  have HM1 := Lib.hid (hM.below (hb1.mono hB))
  have HO := Lib.hid hO
  have HN := Lib.hid HM1.out.n_eq
  have hs12 : M.sg.length ≤ 1000 := by have : M.s = M.sg.length := rfl; have := hO.few; omega
  have HBN := Lib.hid hb
  clear hb1 hM hB hO hb
  go_enter Tryz.func18, Tryz.ntmps18
  go_wp2_with fail
  clear hw1
  go_loopg [1, 7] s.length (fun f av iv wr => ∃ k a q : Nat, k + f = s.length ∧ av = .int .i64 (a : Int) ∧ iv = .int .i64 (k : Int) ∧ Hid (wr = w1.drewN q) ∧ Hid (M.leadB b (s.take k) = some a))
  case atStart => exact ⟨0, b, 0, by omega, rfl, rfl, Lib.hid rfl, Lib.hid rfl⟩
  case round =>
    obtain ⟨k, a, q, hkf, rfl, rfl, HW4, HL⟩ := hrel
    have HA : Hid (a < M.n) := Lib.hid (HO.out.leadB_lt HBN.out HL.out)
    have d0 : wr.cell? ⟨w.heap.size, 0, none⟩ = some (S M.sg) := by rw [HW4.out]; exact c0
    have d1 : wr.cell? ⟨w.heap.size, 1, none⟩ = some (.slice A n c) := by rw [HW4.out]; exact c1
    have HMr : Hid (MacW wr B A n A2 m M) := Lib.hid (by rw [HW4.out]; exact HM1.out.below (below_drewN (Below.refl B w1) q))
    have p0 : (0 : Int) ≤ (a : Int) := by omega
    by_cases hlt : k < s.length
    · obtain ⟨f, rfl⟩ : ∃ f, gk = f + 1 := ⟨gk - 1, by omega⟩
      have p1 : (k : Int) < (s.length : Int) := by omega
      have p2 : IntKind.i64.wrap ((k : Int) + 1) = (k : Int) + 1 := i64_in _ (by omega)
      have HIX := Lib.hid (fun W => placeD_any M.sg (bu s k) W hs12)
      by_cases hm : bu s k ∈ M.sg
      · have HNX := Lib.hid (leadB_takeA hlt HL.out hm)
        have him : M.sg.idxOf (bu s k) < M.sg.length := List.idxOf_lt_length_iff.2 hm
        have HST := Lib.hid (HO.out.st_eq HA.out him)
        have hpv : plcV M.sg (bu s k) = (M.sg.idxOf (bu s k) : Int) := by unfold plcV; rw [if_pos hm]
        rw [hpv] at HIX
        generalize M.sg.idxOf (bu s k) = ix at *
        obtain ⟨b1, o1, A3, m3, c3, hA, _, cr, hI⟩ := HMr.out.rows.at_ (k := a) (by have := HA.out; have := HN.out; omega)
        subst hA
        obtain rfl : m3 = M.s := hI.1.symm.trans (HO.out.row a HA.out)
        obtain ⟨b2, o2, hA3, _, ce⟩ := hI.at_ (k := ix) him
        subst hA3
        rw [HST.out] at ce
        have p3 : (a : Int) < (n : Int) := by have := HA.out; have := HN.out; omega
        have p4 : (ix : Int) < (M.s : Int) := by have : M.s = M.sg.length := rfl; omega
        have p5 : ¬ (ix : Int) < 0 := by omega
        have p6 : a < n := by omega
        have p8 : ix < M.s := him
        clear hm c0 c1 c2' HL hI him hpv
        go_wp2_with fail
        go_quiet ((go_at_call 36; exact Calls.quiet_of_same (HIX.out _)))
        go_wp2_with fail
        go_roundg f
        case measure => omega
        case rel => exact ⟨k + 1, M.st a ix, q + nq, by omega, by simp, by simp, Lib.hid (by rw [HW4.out]; simp), HNX⟩
      · have HNO : Hid (ledV M b s = -1) := Lib.hid (by unfold ledV; rw [leadB_noneA hlt HL.out hm])
        have HB5 : Hid (Below w.heap.size w wr) := Lib.hid (by rw [HW4.out]; exact below_drewN HB1.out q)
        have hpv : plcV M.sg (bu s k) = -1 := by unfold plcV; rw [if_neg hm]
        rw [hpv] at HIX
        clear hm c0 c1 c2' HL hpv
        go_wp2_with fail
        go_quiet ((go_at_call 36; exact Calls.quiet_of_same (HIX.out _)))
        go_wp2_with fail
        go_ret
        exact ⟨ret_int HNO.out.symm, below_drewN HB5.out _⟩
    · obtain rfl : k = s.length := by omega
      have HNO : Hid (ledV M b s = (a : Int)) := Lib.hid (by have h := HL.out; rw [List.take_length] at h; unfold ledV; rw [h])
      have HB5 : Hid (Below w.heap.size w wr) := Lib.hid (by rw [HW4.out]; exact below_drewN HB1.out q)
      have p1 : ¬ (s.length : Int) < (s.length : Int) := by omega
      clear c0 c1 c2' HL
      go_wp2_with fail
      go_ret
      exact ⟨ret_int HNO.out.symm, HB5.out⟩
end Go.Proofs.YtchhbnnpannnhaaGreatDoor
