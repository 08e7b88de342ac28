/- Maps whose elements are all true, as sets of keys: laws at the operations. No condition. -/
import Derived.Test.YtchhbnnpannnhaaDoorWords
import Derived.Maps.Own
import Derived.Maps.OwnOps
import Derived.Maps.OwnSet
import Derived.Maps.RangeWalk
import Derived.Maps.Views
namespace Go.Proofs.YtchhbnnpannnhaaDoor
open Go.RowKit Go.Maps
open Go.WideElems (rg)
set_option linter.unusedVariables false

def R1 : Value → Option (DataW Unit × List MemPlace)
  | .bool true => some (.lit (.bool true), [])
  | _ => none
theorem R1_inv {v : Value} {y : DataW Unit × List MemPlace} (h : R1 v = some y) : v = .bool true := by
  unfold R1 at h
  split at h
  · rfl
  · cases h
theorem len_of_sub {β : Type} : ∀ (l U : List β), l.Pairwise (fun a b => a ≠ b) → (∀ x ∈ l, x ∈ U) → l.length ≤ U.length
  | [], U, _, _ => Nat.zero_le _
  | a :: l, U, hp, hs => by
    obtain ⟨U1, U2, rfl⟩ := List.append_of_mem (hs a (by simp))
    rw [List.pairwise_cons] at hp
    have := len_of_sub l (U1 ++ U2) hp.2 fun x hx => by
      have h1 := hs x (by simp [hx])
      rw [List.mem_append, List.mem_cons] at h1
      rw [List.mem_append]
      rcases h1 with h1 | rfl | h1
      · exact .inl h1
      · exact absurd rfl (hp.1 _ hx)
      · exact .inr h1
    simp only [List.length_append, List.length_cons] at this ⊢
    omega

/-- Keys of one type, few of them. -/
structure KeyE {α : Type} (P : Program) (k : TypeId) (enc : α → Value) (ok : α → Prop) : Prop where
  K : Keyed P k
  read : ∀ x, ok x → ∃ kl, keyOf P k (enc x) = some kl
  one : ∀ x y, enc x = enc y → x = y
  few : ∃ U : List α, U.length ≤ 100000 ∧ ∀ x, ok x → x ∈ U

section
variable {α : Type} {P : Program} {k : TypeId} {enc : α → Value} {ok : α → Prop} {w w' : World} {b r : Nat} {L : List α} {left : α → Prop} {cnt : Nat}

/-- Block b is a map: each key of L, with true. -/
def MSet (P : Program) (k : TypeId) (enc : α → Value) (ok : α → Prop) (w : World) (b : Nat) (L : List α) : Prop :=
  (∀ x ∈ L, ok x) ∧ ∃ D : DataW Unit, w.ownsMap P k R1 b (Maps.size D) D ∧ ∀ v kl, keyOf P k v = some kl → (Maps.has D kl = true ↔ ∃ x ∈ L, v = enc x)
/-- .. and a range over it is under way. -/
def RSet (P : Program) (k : TypeId) (enc : α → Value) (ok : α → Prop) (w : World) (b r : Nat) (L : List α) (left : α → Prop) (cnt : Nat) : Prop :=
  (∀ x ∈ L, ok x) ∧ ∃ (D : DataW Unit) (lf : Lit → Bool), w.ranges P k R1 b r (Maps.size D) D lf cnt ∧ (∀ v kl, keyOf P k v = some kl → (Maps.has D kl = true ↔ ∃ x ∈ L, v = enc x)) ∧
    (∀ kl, lf kl = true → Maps.has D kl = true) ∧ ∀ x kl, keyOf P k (enc x) = some kl → (lf kl = true ↔ left x)
theorem MSet.congr (h : MSet P k enc ok w b L) {L' : List α} (he : ∀ x, x ∈ L ↔ x ∈ L') : MSet P k enc ok w b L' := by
  obtain ⟨h1, D, h2, h3⟩ := h
  exact ⟨fun x hx => h1 x ((he x).2 hx), D, h2, fun v kl hk => by
    rw [h3 v kl hk]
    exact ⟨fun ⟨x, hx, e⟩ => ⟨x, (he x).1 hx, e⟩, fun ⟨x, hx, e⟩ => ⟨x, (he x).2 hx, e⟩⟩⟩
theorem MSet.lt (h : MSet P k enc ok w b L) : b < w.heap.size := by
  obtain ⟨_, D, h2, _⟩ := h
  exact h2.lt
theorem MSet.kept {row : Option Nat} (h : MSet P k enc ok w b L) (hg : w.grownBy w' row) (hne : some b ≠ row) : MSet P k enc ok w' b L := by
  obtain ⟨h1, D, h2, h3⟩ := h
  exact ⟨h1, D, h2.kept hg hne, h3⟩
theorem MSet.block {b' : Nat} (h : MSet P k enc ok w b L) (he : w'.heap[b']? = w.heap[b]?) : MSet P k enc ok w' b' L := by
  obtain ⟨h1, D, ⟨es, clock, hb, F, hs, hD⟩, h3⟩ := h
  exact ⟨h1, D, ⟨es, clock, he.trans hb, F, hs, hD⟩, h3⟩
theorem MSet.below (h : MSet P k enc ok w b L) {B : Nat} (hb : Below B w w') (hB : b < B) : MSet P k enc ok w' b L := h.block (hb.block b hB)
theorem MSet.alloc (h : MSet P k enc ok w b L) (o : Obj) : MSet P k enc ok (w.alloc o) b L := h.kept (World.grownBy_alloc w o none) (by simp)
theorem MSet.copied (h : MSet P k enc ok w b L) : ∃ es clock, w.heap[b]? = some (.map es clock) ∧ MSet P k enc ok (w.alloc (.map es clock)) w.heap.size L := by
  obtain ⟨h1, D, ⟨es, clock, hb, F, hs, hD⟩, h3⟩ := h
  exact ⟨es, clock, hb, h1, D, ⟨es, clock, heap_alloc_new w _, F, hs, hD⟩, h3⟩
theorem MSet.made (P : Program) (k : TypeId) (enc : α → Value) (ok : α → Prop) (w : World) : MSet P k enc ok (w.alloc (.map #[] 0)) w.heap.size [] :=
  ⟨fun x hx => (by cases hx), .map [], World.ownsMap_made w P k R1, fun v kl _ => by
    constructor
    · intro h; cases h
    · rintro ⟨x, hx, _⟩; cases hx⟩
theorem own_tight {D : DataW Unit} {n : Nat} (h : w.ownsMap P k R1 b n D) : w.ownsMap P k R1 b (Maps.size D) D := by
  obtain ⟨es, clock, hb, F, hs, hD⟩ := h
  refine ⟨es, clock, hb, F, ?_, hD⟩
  rw [hD]
  show es.size ≤ ((es.toList.map (rg P k R1)).foldr DataW.insert []).length
  rw [length_sorted]; simp
theorem MSet.small (E : KeyE P k enc ok) {D : DataW Unit} (hL : ∀ x ∈ L, ok x) (h : w.ownsMap P k R1 b (Maps.size D) D) (h3 : ∀ v kl, keyOf P k v = some kl → (Maps.has D kl = true ↔ ∃ x ∈ L, v = enc x)) : Maps.size D ≤ 100000 := by
  obtain ⟨U, hU, hin⟩ := E.few
  obtain ⟨es0, e0, hp, hk⟩ := h.entries E.K
  obtain ⟨es, clock, hb, F, hs, hD⟩ := h
  have hkeys : ∀ p ∈ es0, ∃ v, keyOf P k v = some p.1 := by
    intro p hp'
    have e1 := hD
    rw [e0] at e1
    injection e1 with e1
    rw [e1, mem_sorted] at hp'
    exact fit_keys F p hp'
  refine Nat.le_trans ?_ hU
  rw [e0]
  show es0.length ≤ U.length
  have h1 := len_of_sub (es0.map (·.1)) (U.filterMap fun x => keyOf P k (enc x)) (by rw [List.pairwise_map]; exact hp) (fun x hx => by
    obtain ⟨p, hp', rfl⟩ := List.mem_map.1 hx
    obtain ⟨v, hv⟩ := hkeys p hp'
    have hh : Maps.has D p.1 = true := by
      rw [e0, has_eq, List.any_eq_true]
      exact ⟨p, hp', WideAt.sameKey_self (hk p hp')⟩
    obtain ⟨y, hy, rfl⟩ := (h3 v p.1 hv).1 hh
    exact List.mem_filterMap.2 ⟨y, hin y (hL y hy), hv⟩)
  rw [List.length_map] at h1
  exact Nat.le_trans h1 (List.length_filterMap_le _ _)

theorem MSet.update (h : MSet P k enc ok w b L) (E : KeyE P k enc ok) {t e : TypeId} (ht : P.underlying t = some (.map k e)) (y : α) (hy : ok y) :
    ∃ w', (Instr.mapUpdate t (.map (some b)) (enc y) (.bool true)).run P w = .ok () w' ∧ MSet P k enc ok w' b (L ++ [y]) ∧ w.grownBy w' (some b) := by
  obtain ⟨hL, D, hown, hh⟩ := h
  obtain ⟨kl, hkl⟩ := E.read y hy
  have hsm := MSet.small E hL hown hh
  obtain ⟨w', hrun, hown', hg'⟩ := hown.update E.K ht (show Maps.size D < maxLen by unfold maxLen; omega) hkl (val := .bool true) (d := .lit (.bool true)) (ps := []) rfl
  refine ⟨w', hrun, ⟨fun z hz => ?_, _, own_tight hown', fun u kl' hk => ?_⟩, hg'⟩
  · rcases List.mem_append.1 hz with hz | hz
    · exact hL z hz
    · rw [List.mem_singleton.1 hz]; exact hy
  · by_cases he : kl' = kl
    · subst he
      rw [has_put_same hown.isMap (E.K.key hkl)]
      exact ⟨fun _ => ⟨y, by simp, E.K.inj hk hkl⟩, fun _ => rfl⟩
    · rw [has_put_other he, hh u kl' hk]
      constructor
      · rintro ⟨z, hz, e⟩; exact ⟨z, by simp [hz], e⟩
      · rintro ⟨z, hz, e⟩
        rcases List.mem_append.1 hz with hz | hz
        · exact ⟨z, hz, e⟩
        · rw [List.mem_singleton.1 hz] at e
          rw [e, hkl] at hk
          exact absurd (Option.some.inj hk).symm he
theorem wpList_set_store {w : World} {ops : Array Oper} {rest : List Oper} {o : Oper} {a : Act} {Q : Exit → Act → World → Prop} (hg : o.guard = none) (m x v : Operand) (t : TypeId) (hop : o.op = Op.mapUpdate t m x v)
    (e : TypeId) (E : KeyE P k enc ok) (ht : P.underlying t = some (.map k e)) (b : Nat) (L : List α) (hm : a.eval m = .map (some b)) (hs : MSet P k enc ok w b L) (y : α) (hy : ok y) (hx : a.eval x = enc y) (hv : a.eval v = .bool true)
    (hK : ∀ w', MSet P k enc ok w' b (L ++ [y]) → w.grownBy w' (some b) → wpList P ops Q rest (a.put o.dst undef) w') : wpList P ops Q (o :: rest) a w := by
  obtain ⟨w', hrun, h1, h2⟩ := hs.update E ht y hy
  refine wpList_plain hg fun K' hK' => ?_
  unfold Oper.wp
  simp [execOp, hop, hm, hx, hv, hrun, Result.andThen]
  exact hK' _ _ (hK w' h1 h2)
theorem wpList_set_look {w : World} {ops : Array Oper} {rest : List Oper} {o : Oper} {a : Act} {Q : Exit → Act → World → Prop} (hg : o.guard = none) (m x : Operand) (t : TypeId) (hop : o.op = Op.lookup t m x false)
    (e : TypeId) (E : KeyE P k enc ok) (ht : P.underlying t = some (.map k e)) (hz : (zeroValue e).run P w = .ok (.bool false) w) (b : Nat) (L : List α) (hm : a.eval m = .map (some b)) (hs : MSet P k enc ok w b L) (y : α) (hy : ok y) (hx : a.eval x = enc y)
    (hK : ∀ q : Bool, (q = true ↔ y ∈ L) → wpList P ops Q rest (a.put o.dst (.bool q)) w) : wpList P ops Q (o :: rest) a w := by
  obtain ⟨hL, D, hown, hh⟩ := hs
  obtain ⟨kl, hkl⟩ := E.read y hy
  have hiff : Maps.has D kl = true ↔ y ∈ L := by
    rw [hh _ kl hkl]
    constructor
    · rintro ⟨z, hz, e⟩; rw [E.one _ _ e]; exact hz
    · intro h; exact ⟨y, h, rfl⟩
  obtain ⟨es, clock, hb, F, hn, hD⟩ := hown
  refine wpList_plain hg fun K' hK' => ?_
  unfold Oper.wp
  rcases fit_look false E.K ht hz hb F hkl with ⟨hrun, hno, hat⟩ | ⟨e0, z, hm0, hk0, hrun, hRv, hat, _⟩
  · have hf : Maps.has D kl = false := by rw [hD]; exact has_false_of_atKey hat
    simp only [Bool.false_eq_true, if_false] at hrun
    simp [execOp, hop, hm, hx, hrun, Result.andThen]
    exact hK' _ _ (hK false (by rw [← hiff, hf]))
  · have hf : Maps.has D kl = true := by rw [hD]; exact has_true_of_atKey hat
    have he := R1_inv hRv
    simp only [Bool.false_eq_true, if_false, he] at hrun
    simp [execOp, hop, hm, hx, hrun, Result.andThen]
    exact hK' _ _ (hK true (by rw [← hiff, hf]))
theorem wpList_set_range {w : World} {ops : Array Oper} {rest : List Oper} {o : Oper} {a : Act} {Q : Exit → Act → World → Prop} (hg : o.guard = none) (m : Operand) (t : TypeId) (hop : o.op = Op.range t m)
    (e : TypeId) (E : KeyE P k enc ok) (ht : P.underlying t = some (.map k e)) (b : Nat) (L : List α) (hm : a.eval m = .map (some b)) (hs : MSet P k enc ok w b L)
    (hK : ∀ w' cnt, RSet P k enc ok w' b w.heap.size L (fun x => x ∈ L) cnt → w.grownBy w' none → w'.heap.size = w.heap.size + 1 → wpList P ops Q rest (a.put o.dst (.pointer (some ⟨w.heap.size, 0, none⟩))) w') : wpList P ops Q (o :: rest) a w := by
  obtain ⟨hL, D, hown, hh⟩ := hs
  refine wpList_range_own w hg m t hop k e E.K ht R1 b _ D hm hown ?_
  intro w' hr hg' hsz
  refine hK w' _ ⟨hL, D, _, hr, hh, fun kl h => h, fun x kl hk => ?_⟩ hg' hsz
  rw [hh _ kl hk]
  constructor
  · rintro ⟨z, hz, e⟩; rw [E.one _ _ e]; exact hz
  · intro h; exact ⟨x, h, rfl⟩
theorem wpList_set_next {w : World} {ops : Array Oper} {rest : List Oper} {o : Oper} {a : Act} {Q : Exit → Act → World → Prop} (hg : o.guard = none) (it : Operand) (hop : o.op = Op.next it false)
    (E : KeyE P k enc ok) (b r : Nat) (L : List α) (left : α → Prop) (cnt : Nat) (hit : a.eval it = .pointer (some ⟨r, 0, none⟩)) (h : RSet P k enc ok w b r L left cnt)
    (hDone : (∀ x ∈ L, ¬ left x) → wpList P ops Q rest (a.put o.dst (.tuple #[.bool false])) w)
    (hMore : ∀ (x : α) (w' : World) (cnt' : Nat), x ∈ L → left x → RSet P k enc ok w' b r L (fun z => left z ∧ z ≠ x) cnt' → cnt' < cnt → w.grownBy w' (some r) → w'.heap.size = w.heap.size →
      (Instr.entry (.pointer (some ⟨r, 0, none⟩))).run P w' = .ok (.tuple #[enc x, .bool true]) w' → wpList P ops Q rest (a.put o.dst (.tuple #[.bool true, enc x, .bool true])) w') : wpList P ops Q (o :: rest) a w := by
  obtain ⟨hL, D, lf, hr, hh, hlf, hl⟩ := h
  refine wpList_next_ranges (α := Value) (β := Unit) w hg it hop k E.K R1 id (fun _ => .bool true) (fun key _ _ => ⟨key, rfl⟩) (fun v y hv => ⟨(), R1_inv hv⟩) b r _ D lf cnt hit hr ?_ ?_
  · intro _ h0
    refine hDone fun x hx hlx => ?_
    obtain ⟨kl, hkl⟩ := E.read x (hL x hx)
    have := (hl x kl hkl).2 hlx
    rw [h0] at this
    cases this
  · intro v _ kl y w' cnt' hkey hlx hv hat hr' hlt hg' hsz hen
    obtain ⟨x, hx, rfl⟩ := (hh v kl hkey).1 (hlf kl hlx)
    refine hMore x w' cnt' hx ((hl x kl hkey).1 hlx) ⟨hL, D, _, hr', hh, fun kl' h => ?_, fun z kl' hk => ?_⟩ hlt hg' hsz hen
    · exact hlf kl' (Bool.and_eq_true .. ▸ h).1
    · rw [Bool.and_eq_true, hl z kl' hk, Bool.not_eq_true', ← Bool.not_eq_true, WideAt.sameKey_iff (E.K.key hkey)]
      refine and_congr_right fun _ => not_congr ⟨fun e => ?_, fun e => ?_⟩
      · subst e; exact E.one _ _ (E.K.inj hk hkey)
      · subst e
        have hkey' : keyOf P k (enc z) = some kl := hkey
        rw [hk] at hkey'
        exact Option.some.inj hkey'
theorem RSet.set (h : RSet P k enc ok w b r L left cnt) : MSet P k enc ok w b L := by
  obtain ⟨hL, D, lf, hr, hh, _, _⟩ := h
  exact ⟨hL, D, hr.owns, hh⟩
theorem RSet.kept {row : Option Nat} (h : RSet P k enc ok w b r L left cnt) (hg : w.grownBy w' row) (hb : some b ≠ row) (hr' : some r ≠ row) : RSet P k enc ok w' b r L left cnt := by
  obtain ⟨hL, D, lf, hr, hh, h1, h2⟩ := h
  exact ⟨hL, D, lf, hr.kept hg hb hr', hh, h1, h2⟩
theorem RSet.left_eq (h : RSet P k enc ok w b r L left cnt) : w.rangeLeft b r = cnt := by
  obtain ⟨hL, D, lf, hr, _⟩ := h
  exact hr.left_eq
theorem RSet.lt (h : RSet P k enc ok w b r L left cnt) : r < w.heap.size := by
  obtain ⟨hL, D, lf, hr, _⟩ := h
  exact hr.lt
theorem grown_of_below {B : Nat} (h : Below B w w') (hB : w.heap.size ≤ B) (row : Option Nat) : w.grownBy w' row := ⟨h.os, h.tape, h.output, h.size, fun i hi _ => h.block i (by omega)⟩
theorem below_of_grown (h : w.grownBy w' none) : Below w.heap.size w w' := ⟨h.os, h.tape, h.output, h.size, fun i hi => h.block i hi (by simp)⟩
end
end Go.Proofs.YtchhbnnpannnhaaDoor
