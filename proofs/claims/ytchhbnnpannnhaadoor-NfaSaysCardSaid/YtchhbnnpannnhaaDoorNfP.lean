/- append of a row that is read to a row that the call owns. No condition. -/
import Derived.Test.YtchhbnnpannnhaaDoorNfK
import Derived.Test.YtchhbnnpannnhaaDoorLsO
namespace Go.Proofs.YtchhbnnpannnhaaDoor
open Go.RowKit Go.Maps
set_option linter.unusedVariables false

theorem run_append_zero {P : Program} {w : World} (base : Nat) (t ty e : TypeId) (i : TypeInfo) (size : Nat) (ht : P.underlying t = some (.slice e)) (hi : P.info? e = some i)
    (v : Value) (n : Nat) (xs : List Value) (hown : w.ownsRow base e size v n xs) (A : Option Addr) (c : Nat) :
    (Builtin.append_ #[t, t] ty #[v, .slice A 0 c]).run P w = .ok v w := by
  rcases hown.2 with ⟨rfl, rfl⟩ | ⟨g, cap, cur, rfl, _, _, hnc, _⟩
  · cases A <;> simp [Builtin.append_, run_underlying ht, sizeOf, typeInfo, hi, Builtin.lenOf, Builtin.firstCells, loadCells, loadCellsFrom]
  · cases A <;> simp [Builtin.append_, run_underlying ht, sizeOf, typeInfo, hi, Builtin.lenOf, Builtin.firstCells, hnc, storeCells, loadCells, loadCellsFrom]
/-- A slice reads as cells. -/
def Cs (w : World) (A : Option Addr) (m : Nat) (X : List Value) : Prop := X.length = m ∧ (0 < m → ∃ b off, A = some ⟨b, off, none⟩ ∧ ∀ j u, X[j]? = some u → w.cell? ⟨b, off + j, none⟩ = some u)
theorem Ints.cs {w : World} {B n : Nat} {A : Option Addr} {l : List Int} (h : Ints w B A n l) : Cs w A n (l.map (Value.int .i64)) := by
  refine ⟨by simpa using h.1, fun hn => ?_⟩
  obtain ⟨b, off, e, _, hc⟩ := h.2 hn
  refine ⟨b, off, e, fun j u hj => ?_⟩
  have hjl : j < l.length := by
    rcases Nat.lt_or_ge j l.length with hl | hl
    · exact hl
    · rw [List.getElem?_eq_none (by simpa using hl)] at hj; cases hj
  rw [hc j (by have := h.1; omega), ← hj, List.getElem?_map, List.getElem?_eq_getElem hjl, gi_eq hjl]; rfl
theorem own_cs {w : World} {base n : Nat} {e : TypeId} {v : Value} {X : List Value} (h : w.ownsRow base e 1 v n X) : ∃ A c, v = .slice A n c ∧ Cs w A n X := by
  rcases h.2 with ⟨rfl, rfl⟩ | ⟨g, cap, cur, rfl, hg, hh, h1, h2, h3, h4⟩
  · exact ⟨none, 0, rfl, by simpa using h.1, fun hn => absurd hn (by omega)⟩
  · refine ⟨some ⟨g, 0, none⟩, cap, rfl, by have := h.1; omega, fun _ => ⟨g, 0, rfl, fun j u hj => ?_⟩⟩
    have := World.ownsRow.cells h (g := g) rfl j u hj
    rw [Nat.zero_add]
    rwa [Addr.add_lit, Nat.zero_add] at this
theorem wpList_append_cells {P : Program} {w : World} {ops : Array Oper} {rest : List Oper} {o : Oper} {a : Act} {Q : Exit → Act → World → Prop} (hgd : o.guard = none) (s x : Operand) (t : TypeId)
    (ho : o.op = .call { callee := .builtin .append, args := #[s, x], argTypes := #[t, t] }) (e : TypeId) (i : TypeInfo) (z : Value) (ht : P.underlying t = some (.slice e)) (hi : P.info? e = some i) (hz : i.zero = some z)
    (hsize : i.size = 1) (hby : i.bytes ≤ 64) (hzs : z.cells.size = 1)
    (base : Nat) (v : Value) (T X : List Value) (hs : a.eval s = v) (hown : w.ownsRow base e 1 v T.length T) (A : Option Addr) (m c : Nat) (hx : a.eval x = .slice A m c) (hX : Cs w A m X) (h1 : ∀ u ∈ X, u.oneCell' = true)
    (hb : T.length + X.length ≤ 1000000) (hbase : base ≤ w.heap.size)
    (h : ∀ v' w', w'.ownsRow base e 1 v' (T ++ X).length (T ++ X) → w.grownBy w' v.ownBlock → Below base w w' → (v'.ownBlock = v.ownBlock ∨ v'.ownBlock = some w.heap.size) → wpList P ops Q rest (a.put o.dst v') w') :
    wpList P ops Q (o :: rest) a w := by
  have hm : X.length = m := hX.1
  have hbl : ∀ w', w.grownBy w' v.ownBlock → Below base w w' := fun w' hg => (Below.refl base w).grown hg hbase (fun k hk => own_lt hown hk)
  by_cases h0 : m = 0
  · subst h0
    have hX0 : X = [] := List.eq_nil_of_length_eq_zero hm
    subst hX0
    refine wpList_plain hgd fun K hK => ?_
    have hr := run_append_zero (P := P) (w := w) base t o.type e i 1 ht hi v T.length _ hown A c
    unfold Oper.wp execOp
    simp only [ho, resolve, invoke, builtin, Sem.run_bind, Sem.run_pure, Result.andThen_ok, List.map_toArray, List.map_cons, List.map_nil, hs, hx, hr]
    exact hK _ _ (h v w (by simpa using hown) ⟨rfl, rfl, rfl, Nat.le_refl _, fun _ _ _ => rfl⟩ (Below.refl _ _) (.inl rfl))
  · obtain ⟨b, off, rfl, hc⟩ := hX.2 (by omega)
    refine wpList_append_own_at (P := P) w hgd s x t ho base e i z 1 i.bytes ht hi hz hsize rfl hzs (by omega) v T.length T hs hown ⟨b, off, none⟩ m c X hx (by simp [hm]) ?_ h1 ?_ ?_ hbase ?_
    · intro j u hj
      rw [Addr.add_lit]
      exact hc j u hj
    · simp only [maxLen]; omega
    · have h2 : (T.length + m) * i.bytes ≤ 1000000 * 64 := Nat.mul_le_mul (by omega) hby
      omega
    · intro v' w' h1 h2 _ h4
      refine h v' w' ?_ h2 (hbl w' h2) h4
      rw [List.length_append, hm]; exact h1
theorem wpList_append_row {w : World} {ops : Array Oper} {rest : List Oper} {o : Oper} {a : Act} {Q : Exit → Act → World → Prop} (hgd : o.guard = none) (s x : Operand)
    (ho : o.op = .call { callee := .builtin .append, args := #[s, x], argTypes := #[27, 27] })
    (base : Nat) (v : Value) (T X : List Nat) (hs : a.eval s = v) (hown : w.ownsRow base 3 1 v T.length (T.map eI)) (A : Option Addr) (m c B : Nat) (hx : a.eval x = .slice A m c) (hX : Ints w B A m (zs X))
    (hb : T.length + X.length ≤ 1000000) (hbase : base ≤ w.heap.size)
    (h : ∀ v' w', w'.ownsRow base 3 1 v' (T ++ X).length ((T ++ X).map eI) → w.grownBy w' v.ownBlock → Below base w w' → wpList Tryd.prog ops Q rest (a.put o.dst v') w') :
    wpList Tryd.prog ops Q (o :: rest) a w := by
  obtain ⟨i0, hi, hz0, hz1, hz2⟩ := info_parts info_intN
  have e1 : (zs X).map (Value.int .i64) = X.map eI := by simp [zs]
  have hc := hX.cs
  rw [e1] at hc
  refine wpList_append_cells hgd s x 27 ho 3 i0 _ Tryd.underlying27 hi hz0 hz1 (by omega) rfl base v (T.map eI) (X.map eI) hs (by simpa using hown) A m c hx hc ?_ (by simpa using hb) hbase ?_
  · intro u hu
    obtain ⟨y, _, rfl⟩ := List.mem_map.1 hu
    rfl
  · intro v' w' h1 h2 h3 _
    refine h v' w' ?_ h2 h3
    rw [← List.map_append] at h1
    simpa using h1
end Go.Proofs.YtchhbnnpannnhaaDoor
