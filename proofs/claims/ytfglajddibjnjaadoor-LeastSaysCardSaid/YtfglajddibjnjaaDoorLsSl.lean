/- The shortest text, looked for level by level, in plain Lean; and what is in memory while one looks. No condition. -/
import Derived.Test.YtfglajddibjnjaaDoorLsD
import Derived.Test.YtfglajddibjnjaaDoorLsQ
namespace Go.Proofs.YtfglajddibjnjaaDoor
open Go.RowKit IntWalk
set_option linter.unusedSimpArgs false
set_option linter.unusedVariables false

theorem pushG_app (M : Mc) (i : Nat) (x : List UInt8) (Q N : List (Nat × List UInt8)) (S : List Nat) : ∀ c, pushG M i x (Q ++ N) S c = (Q ++ (pushG M i x N S c).1, (pushG M i x N S c).2)
  | 0 => rfl
  | c + 1 => by
    have ih := pushG_app M i x Q N S c
    rw [show pushG M i x (Q ++ N) S (c + 1) = if M.st i c ∈ (pushG M i x (Q ++ N) S c).2 then pushG M i x (Q ++ N) S c else ((pushG M i x (Q ++ N) S c).1 ++ [(M.st i c, x ++ [bu M.sg c])], (pushG M i x (Q ++ N) S c).2 ++ [M.st i c]) from rfl, ih]
    by_cases h : M.st i c ∈ (pushG M i x N S c).2
    · rw [if_pos h, pushG_in h]
    · rw [if_neg h, pushG_out h, List.append_assoc]
/-- The first one of a level that is taken is found, whatever was met. -/
theorem Run.level {M : Mc} {q : Nat × List UInt8} (hq : bo M.tk q.1 = true) : ∀ (pre suf : List (Nat × List UInt8)) (S : List Nat), (∀ p ∈ pre, bo M.tk p.1 = false) → Run M (pre ++ q :: suf) S (some q.2)
  | [], suf, S, _ => .hit suf S hq
  | p :: pre, suf, S, h => by
    rw [List.cons_append]
    refine .step (h p List.mem_cons_self) ?_
    have e := pushG_app M p.1 p.2 (pre ++ q :: suf) [] S M.s
    rw [List.append_nil] at e
    rw [e, List.append_assoc, List.cons_append]
    exact Run.level hq pre _ _ fun r hr => h r (List.mem_cons_of_mem _ hr)
theorem Run.next {M : Mc} {i : Nat} {x : List UInt8} {L N : List (Nat × List UInt8)} {S : List Nat} {r : Option (List UInt8)} (ht : bo M.tk i = false) (h : Run M (L ++ (pushG M i x N S M.s).1) (pushG M i x N S M.s).2 r) : Run M ((i, x) :: L ++ N) S r := by
  rw [List.cons_append]
  refine .step ht ?_
  rw [pushG_app]
  exact h

/-- A row of texts of the call's own. -/
abbrev OwS (w : World) (D : Nat) (v : Value) (K : List (List UInt8)) : Prop := w.ownsRow D 9 1 v (K.map (fun l => Value.string ⟨l.toArray⟩)).length (K.map (fun l => Value.string ⟨l.toArray⟩))
/-- What is in memory while one looks: a level, its texts, what was met, the next level, its texts. -/
structure ShR (wo : World) (D : Nat) (nv tv mv xv yv : Value) (L N : List (Nat × List UInt8)) (Sn : List Nat) (w : World) : Prop where
  now : OwI w D nv (L.map fun p => (p.1 : Int))
  txt : OwS w D tv (L.map Prod.snd)
  met : OwI w D mv (Sn.map fun x : Nat => (x : Int))
  nxt : OwI w D xv (N.map fun p => (p.1 : Int))
  mor : OwS w D yv (N.map Prod.snd)
  n1 : ∀ k, nv.ownBlock = some k → mv.ownBlock ≠ some k
  n2 : ∀ k, nv.ownBlock = some k → xv.ownBlock ≠ some k
  n3 : ∀ k, mv.ownBlock = some k → xv.ownBlock ≠ some k
  n4 : ∀ k, tv.ownBlock = some k → yv.ownBlock ≠ some k
  low : Below D wo w
section
variable {wo : World} {D : Nat} {nv tv mv xv yv v' : Value} {L N : List (Nat × List UInt8)} {Sn : List Nat} {t : Nat} {y : List UInt8} {w w' : World}
theorem ne_new {v u v' : Value} {k : Nat} (hl : v'.ownBlock = v.ownBlock ∨ ∃ g, v'.ownBlock = some g ∧ w.heap.size ≤ g) (hu : u.ownBlock = some k) (hlt : k < w.heap.size) (hn : v.ownBlock ≠ some k) : v'.ownBlock ≠ some k := by
  rcases hl with e | ⟨g, e, hg⟩
  · rw [e]; exact hn
  · rw [e]; intro e; injection e with e; omega
/-- A state and its text more: met, the next level, its texts. -/
theorem ShR.add {mv' xv' yv' : Value} {w1 w2 w3 : World} (h : ShR wo D nv tv mv xv yv L N Sn w)
    (g1 : w.grownBy w1 mv.ownBlock) (l1 : mv'.ownBlock = mv.ownBlock ∨ ∃ g, mv'.ownBlock = some g ∧ w.heap.size ≤ g)
    (o1 : w1.ownsRow D 3 1 mv' ((Sn.map fun x : Nat => (x : Int)).map (Value.int .i64) ++ [Value.int .i64 (t : Int)]).length ((Sn.map fun x : Nat => (x : Int)).map (Value.int .i64) ++ [Value.int .i64 (t : Int)]))
    (g2 : w1.grownBy w2 xv.ownBlock) (l2 : xv'.ownBlock = xv.ownBlock ∨ ∃ g, xv'.ownBlock = some g ∧ w1.heap.size ≤ g)
    (o2 : w2.ownsRow D 3 1 xv' ((N.map fun p => (p.1 : Int)).map (Value.int .i64) ++ [Value.int .i64 (t : Int)]).length ((N.map fun p => (p.1 : Int)).map (Value.int .i64) ++ [Value.int .i64 (t : Int)]))
    (g3 : w2.drew.grownBy w3 yv.ownBlock) (l3 : yv'.ownBlock = yv.ownBlock ∨ ∃ g, yv'.ownBlock = some g ∧ w2.heap.size ≤ g)
    (o3 : w3.ownsRow D 9 1 yv' ((N.map Prod.snd).map (fun l => Value.string ⟨l.toArray⟩) ++ [Value.string ⟨y.toArray⟩]).length ((N.map Prod.snd).map (fun l => Value.string ⟨l.toArray⟩) ++ [Value.string ⟨y.toArray⟩]))
    (hD : D ≤ w.heap.size) : ShR wo D nv tv mv' xv' yv' L (N ++ [(t, y)]) (Sn ++ [t]) w3 := by
  have hz1 := g1.size
  have hz2 := g2.size
  have ity : ∀ {u : Value} {n : Nat} {xs : List Value} {W : World} {k : Nat}, W.ownsRow D 3 1 u n xs → u.ownBlock = some k → ∀ {u2 : Value} {n2 : Nat} {xs2 : List Value}, W.ownsRow D 9 1 u2 n2 xs2 → u2.ownBlock ≠ some k := fun h1 hk _ _ _ h2 e => by
    obtain ⟨cs, hc⟩ := own_typed h1 hk
    obtain ⟨cs', hc'⟩ := own_typed h2 e
    exact ty_ne hc hc' (by decide)
  have a1 := own_kept h.now g1 fun k hk e => h.n1 k hk e
  have a2 := own_kept h.txt g1 fun k hk e => ity h.met e h.txt hk
  have a4 := own_kept h.nxt g1 fun k hk e => h.n3 k e hk
  have a5 := own_kept h.mor g1 fun k hk e => ity h.met e h.mor hk
  have m1 : ∀ k, nv.ownBlock = some k → mv'.ownBlock ≠ some k := fun k hk => ne_new l1 hk (h.now.lt k hk).2 (h.n1 k hk)
  have m3 : ∀ k, xv.ownBlock = some k → mv'.ownBlock ≠ some k := fun k hk => ne_new l1 hk (h.nxt.lt k hk).2 fun e => h.n3 k e hk
  have b1 := own_kept a1 g2 fun k hk e => h.n2 k hk e
  have b2 := own_kept a2 g2 fun k hk e => ity a4 e a2 hk
  have b3 := own_kept o1 g2 fun k hk e => m3 k e hk
  have b5 := own_kept a5 g2 fun k hk e => ity a4 e a5 hk
  have p2 : ∀ k, nv.ownBlock = some k → xv'.ownBlock ≠ some k := fun k hk => ne_new l2 hk (a1.lt k hk).2 (h.n2 k hk)
  have p3 : ∀ k, mv'.ownBlock = some k → xv'.ownBlock ≠ some k := fun k hk => ne_new l2 hk (o1.lt k hk).2 fun e => m3 k e hk
  have c1 := own_kept (w := w2.drew) b1 g3 fun k hk e => ity b1 hk b5 e
  have c2 := own_kept (w := w2.drew) b2 g3 fun k hk e => h.n4 k hk e
  have c3 := own_kept (w := w2.drew) b3 g3 fun k hk e => ity b3 hk b5 e
  have c4 := own_kept (w := w2.drew) o2 g3 fun k hk e => ity o2 hk b5 e
  have lo1 := h.low.grown g1 hD fun k hk => own_lt h.met hk
  have lo2 := lo1.grown g2 (by omega) fun k hk => own_lt a4 hk
  have lo3 := lo2.drew.grown g3 (by show D ≤ w2.heap.size; omega) fun k hk => own_lt b5 hk
  refine ⟨c1, c2, ?_, ?_, ?_, m1, p2, p3, fun k hk => ne_new l3 hk (b2.lt k hk).2 (h.n4 k hk), lo3⟩
  · show w3.ownsRow D 3 1 mv' _ _
    rw [List.map_append, List.map_append]; exact c3
  · show w3.ownsRow D 3 1 xv' _ _
    rw [List.map_append, List.map_append]; exact c4
  · show w3.ownsRow D 9 1 yv' _ _
    rw [List.map_append, List.map_append]; exact o3
theorem ShR.drewN (h : ShR wo D nv tv mv xv yv L N Sn w) (q : Nat) : ShR wo D nv tv mv xv yv L N Sn (w.drewN q) := ⟨h.now, h.txt, h.met, h.nxt, h.mor, h.n1, h.n2, h.n3, h.n4, below_drewN h.low q⟩
/-- The next level is the level. -/
theorem ShR.turn (h : ShR wo D nv tv mv xv yv L N Sn w) : ShR wo D xv yv mv (.slice none 0 0) (.slice none 0 0) N [] Sn w :=
  ⟨h.nxt, h.mor, h.met, World.ownsRow_nil _ _ _ _, World.ownsRow_nil _ _ _ _, fun k hk e => h.n3 k e hk, fun k _ => by simp [Value.ownBlock], fun k _ => by simp [Value.ownBlock], fun k _ => by simp [Value.ownBlock], h.low⟩
end
theorem cell_own {w : World} {D n c j : Nat} {e : TypeId} {A : Option Addr} {xs : List Value} (h : w.ownsRow D e 1 (.slice A n c) xs.length xs) (hj : j < xs.length) : ∃ g, A = some ⟨g, 0, none⟩ ∧ w.cell? ⟨g, j, none⟩ = some xs[j] := by
  rcases h.2 with ⟨_, h0⟩ | ⟨g, cap, cur, e', _⟩
  · omega
  · injection e' with e1 _ _
    subst e1
    refine ⟨g, rfl, ?_⟩
    have := h.cells (g := g) rfl j xs[j] (List.getElem?_eq_getElem hj)
    rwa [Addr.add_lit, Nat.zero_add] at this
end Go.Proofs.YtfglajddibjnjaaDoor
