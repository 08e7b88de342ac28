/- A session in memory: its desk, the book, the answers' builder, and a cell that an iterator keeps. No condition. -/
import Derived.Test.YteoofkinmilckaaGreatDoorDeskB
import Derived.Test.YteoofkinmilckaaGreatDoorBookJ
import Derived.Test.YteoofkinmilckaaGreatDoorRangeC
namespace Go.Proofs.YteoofkinmilckaaGreatDoor
open Go.RowKit IntWalk

/-- The desk's cell: which book. -/
abbrev dObj (bk : Nat) : Obj := .cells #[.pointer (some ⟨bk, 0, none⟩)] 63 (0, 0)
def upd (F : Nat → Option Obj) (d : Nat) (o : Obj) : Nat → Option Obj := fun k => if k = d then some o else F k
theorem upd_self (F : Nat → Option Obj) (d : Nat) (o : Obj) : upd F d o d = some o := if_pos rfl
theorem upd_ne {F : Nat → Option Obj} {d k : Nat} {o : Obj} (h : k ≠ d) : upd F d o k = F k := if_neg h
theorem upd_same {F : Nat → Option Obj} {d : Nat} {o : Obj} (h : F d = some o) : upd F d o = F := by
  funext k
  by_cases hk : k = d
  · subst hk; rw [upd_self, h]
  · rw [upd_ne hk]
def Ses (B db bk ob c : Nat) (s : BS) (txt : List UInt8) (W : World) : Prop :=
  ∃ F G o, o.isCells = true ∧ Bks F B bk s W ∧ F db = some (dObj bk) ∧ F c = some o ∧ Bld B ob G txt W ∧ (∀ x, (x = ob ∨ G = some x) → ∃ o', F x = some o') ∧ (∀ k o', F k = some o' → o'.isCells = true) ∧ (ob ≠ db ∧ ob ≠ c ∧ c ≠ db ∧ G ≠ some db ∧ G ≠ some c)
section
variable {B db bk ob c : Nat} {s : BS} {txt : List UInt8} {W : World}
/-- The desk's operation: what is not cells is foreign too. -/
theorem Ses.op (h : Ses B db bk ob c s txt W) : ∃ F, Bks F B bk s W ∧ F db = some (dObj bk) ∧ (∀ k o, W.heap[k]? = some o → o.isCells = false → F k = some o) ∧ (∃ o, W.heap[c]? = some o ∧ F c = some o ∧ c ≠ db) ∧
    ∀ W' bk' s', Bks (upd F db (dObj bk')) B bk' s' W' → Ses B db bk' ob c s' txt W' := by
  obtain ⟨F, G, o, ho, hk, hd, hc, hb, hfo, hcl, hne⟩ := h
  obtain ⟨F', hk', hsub, hwall⟩ := hk.walls
  refine ⟨F', hk', hsub _ _ hd, hwall, ⟨o, hk.frame hc, hsub _ _ hc, hne.2.2.1⟩, fun W' bk' s' h' => ?_⟩
  have hfr : ∀ k o1, F k = some o1 → k ≠ db → W'.heap[k]? = W.heap[k]? := fun k o1 h1 h2 => (h'.frame ((upd_ne h2).trans (hsub _ _ h1))).trans (hk.frame h1).symm
  refine ⟨upd F db (dObj bk'), G, o, ho, h'.weaken fun k o1 h1 => ?_, upd_self _ _ _, (upd_ne hne.2.2.1).trans hc, hb.stay ?_ (fun x hx => ?_), fun x hx => ?_, fun k o1 h1 => ?_, hne⟩
  · by_cases hkd : k = db
    · subst hkd; rw [upd_self] at h1 ⊢; exact h1
    · rw [upd_ne hkd] at h1 ⊢; exact hsub _ _ h1
  · obtain ⟨o1, h1⟩ := hfo ob (.inl rfl)
    exact hfr ob o1 h1 hne.1
  · obtain ⟨o1, h1⟩ := hfo x (.inr hx)
    exact hfr x o1 h1 (fun e => hne.2.2.2.1 (by rw [hx, e]))
  · obtain ⟨o1, h1⟩ := hfo x hx
    exact ⟨o1, (upd_ne (fun e => by
      rcases hx with hx | hx
      · exact hne.1 (by rw [← hx, e])
      · exact hne.2.2.2.1 (by rw [hx, e]))).trans h1⟩
  · by_cases hkd : k = db
    · subst hkd; rw [upd_self] at h1; obtain rfl := Option.some.inj h1; rfl
    · rw [upd_ne hkd] at h1; exact hcl k o1 h1
/-- The builder's operation. -/
theorem Ses.wr (h : Ses B db bk ob c s txt W) : ∃ G, Bld B ob G txt W ∧ ∀ W' G' txt', Bld B ob G' txt' W' → Fr ob G W W' → (∀ x, G' = some x → G = some x ∨ W.heap.size ≤ x) →
    Ses B db bk ob c s txt' W' ∧ (∀ k o, W.heap[k]? = some o → (o.isCells = false ∨ k = c) → W'.heap[k]? = some o) ∧ (∀ k, k < B → k < W.heap.size → W'.heap[k]? = W.heap[k]?) := by
  obtain ⟨F, G, o, ho, hk, hd, hc, hb, hfo, hcl, hn1, hn2, hn3, hn4, hn5⟩ := h
  refine ⟨G, hb, fun W' G' txt' hb' hfr hG' => ?_⟩
  have hdW := hk.frame hd
  have hcW := hk.frame hc
  have hdl := (Array.getElem?_eq_some_iff.1 hdW).1
  have hcl' := (Array.getElem?_eq_some_iff.1 hcW).1
  have keep : ∀ k, k < W.heap.size → k ≠ ob → G ≠ some k → W'.heap[k]? = W.heap[k]? := fun k h1 h2 h3 => hfr.block k h1 h2 (fun e => h3 e.symm)
  have hobj : ∃ cs t fr, W'.heap[ob]? = some (.cells cs t fr) := by
    obtain ⟨_, p, v, hbk, _⟩ := hb'
    exact ⟨_, _, _, hbk⟩
  have hGob : ∀ x, G' = some x → ∃ cs t fr, W'.heap[x]? = some (.cells cs t fr) := fun x hx => by
    obtain ⟨_, p, v, hbk, _, hown, hv, _⟩ := hb'
    rcases hown.2 with ⟨rfl, _⟩ | ⟨g, cap, cur, rfl, _, hg, _⟩
    · rw [hx] at hv; cases hv
    · obtain rfl : g = x := by rw [hx] at hv; exact Option.some.inj hv
      exact ⟨_, _, _, hg⟩
  have hGcells : ∀ x, (x = ob ∨ G = some x) → ∃ o', W.heap[x]? = some o' ∧ o'.isCells = true := fun x hx => by
    obtain ⟨o', h'⟩ := hfo x hx
    exact ⟨o', hk.frame h', hcl x o' h'⟩
  refine ⟨⟨fun k => if k = db then some (dObj bk) else if k = c then some o else if k = ob ∨ G' = some k then W'.heap[k]? else none, G', o, ho, ?_, if_pos rfl, ?_, hb', fun x hx => ?_, fun k o1 h1 => ?_, hn1, hn2, hn3, fun e => ?_, fun e => ?_⟩, fun k o1 h1 h2 => ?_, fun k h1 h2 => ?_⟩
  · refine hk.refence (Nat.le_refl _) (fun k o1 hB hF hw _ => ?_) (fun k o1 h1 => ?_)
    · refine (keep k (Array.getElem?_eq_some_iff.1 hw).1 (fun e => ?_) (fun e => ?_)).trans hw
      · obtain ⟨o', h'⟩ := hfo k (.inl e); rw [hF] at h'; cases h'
      · obtain ⟨o', h'⟩ := hfo k (.inr e); rw [hF] at h'; cases h'
    · try simp only [] at h1
      by_cases e1 : k = db
      · subst e1
        rw [if_pos rfl] at h1
        obtain rfl := Option.some.inj h1
        exact ⟨(keep k hdl (fun e => hn1 e.symm) hn4).trans hdW, .inr (.inr ⟨_, hd⟩)⟩
      · rw [if_neg e1] at h1
        by_cases e2 : k = c
        · subst e2
          rw [if_pos rfl] at h1
          obtain rfl := Option.some.inj h1
          exact ⟨(keep k hcl' (fun e => hn2 e.symm) hn5).trans hcW, .inr (.inr ⟨_, hc⟩)⟩
        · rw [if_neg e2] at h1
          by_cases e3 : k = ob ∨ G' = some k
          · rw [if_pos e3] at h1
            refine ⟨h1, ?_⟩
            rcases e3 with e3 | e3
            · exact .inr (.inr (hfo k (.inl e3)))
            · rcases hG' k e3 with e4 | e4
              · exact .inr (.inr (hfo k (.inr e4)))
              · exact .inr (.inl e4)
          · rw [if_neg e3] at h1; cases h1
  · simp [hn3]
  · simp only []
    by_cases e1 : x = db
    · exact ⟨_, if_pos e1⟩
    · rw [if_neg e1]
      by_cases e2 : x = c
      · exact ⟨_, if_pos e2⟩
      · rw [if_neg e2, if_pos hx]
        rcases hx with hx | hx
        · subst hx; obtain ⟨cs, t, fr, h'⟩ := hobj; exact ⟨_, h'⟩
        · obtain ⟨cs, t, fr, h'⟩ := hGob x hx; exact ⟨_, h'⟩
  · try simp only [] at h1
    by_cases e1 : k = db
    · rw [if_pos e1] at h1; obtain rfl := Option.some.inj h1; rfl
    · rw [if_neg e1] at h1
      by_cases e2 : k = c
      · rw [if_pos e2] at h1; obtain rfl := Option.some.inj h1; exact ho
      · rw [if_neg e2] at h1
        by_cases e3 : k = ob ∨ G' = some k
        · rw [if_pos e3] at h1
          rcases e3 with e3 | e3
          · subst e3; obtain ⟨cs, t, fr, h'⟩ := hobj; rw [h'] at h1; obtain rfl := Option.some.inj h1; rfl
          · obtain ⟨cs, t, fr, h'⟩ := hGob k e3; rw [h'] at h1; obtain rfl := Option.some.inj h1; rfl
        · rw [if_neg e3] at h1; cases h1
  · rcases hG' _ e with h' | h'
    · exact hn4 h'
    · omega
  · rcases hG' _ e with h' | h'
    · exact hn5 h'
    · omega
  · have hl := (Array.getElem?_eq_some_iff.1 h1).1
    refine (keep k hl (fun e => ?_) (fun e => ?_)).trans h1
    · rcases h2 with h2 | h2
      · obtain ⟨o', q1, q2⟩ := hGcells k (.inl e); rw [h1] at q1; obtain rfl := Option.some.inj q1; rw [h2] at q2; cases q2
      · exact hn2 (by rw [← e, h2])
    · rcases h2 with h2 | h2
      · obtain ⟨o', q1, q2⟩ := hGcells k (.inr e); rw [h1] at q1; obtain rfl := Option.some.inj q1; rw [h2] at q2; cases q2
      · exact hn5 (by rw [← h2]; exact e)
  · refine keep k h2 (fun e => ?_) (fun e => ?_)
    · have := hb.1; omega
    · have := (hb.glt e).2; omega
theorem Ses.below (h : Ses B db bk ob c s txt W) {W' : World} (hb : Below W.heap.size W W') : Ses B db bk ob c s txt W' := by
  obtain ⟨F, G, o, ho, hk, hd, hc, hbl, hfo, hcl, hne⟩ := h
  exact ⟨F, G, o, ho, hk.below hb, hd, hc, hbl.stay (hb.block _ hbl.lt) (fun x hx => hb.block _ (hbl.glt hx).1), hfo, hcl, hne⟩
theorem Ses.grown (h : Ses B db bk ob c s txt W) {W' : World} {row : Option Nat} (hg : W.grownBy W' row) (hr : ∀ r, row = some r → ∃ o : Obj, W.heap[r]? = some o ∧ o.isCells = false) : Ses B db bk ob c s txt W' := by
  obtain ⟨F, G, o, ho, hk, hd, hc, hbl, hfo, hcl, hne⟩ := h
  have keep : ∀ k o1, F k = some o1 → W'.heap[k]? = W.heap[k]? := fun k o1 h1 => hg.block k (Array.getElem?_eq_some_iff.1 (hk.frame h1)).1 fun e => by
    obtain ⟨o2, q1, q2⟩ := hr k e.symm
    rw [hk.frame h1] at q1; obtain rfl := Option.some.inj q1
    rw [hcl _ _ h1] at q2; cases q2
  refine ⟨F, G, o, ho, hk.grown hcl hg hr, hd, hc, hbl.stay ?_ (fun x hx => ?_), hfo, hcl, hne⟩
  · obtain ⟨o1, h1⟩ := hfo ob (.inl rfl); exact keep _ _ h1
  · obtain ⟨o1, h1⟩ := hfo x (.inr hx); exact keep _ _ h1
theorem Ses.free (h : Ses B db bk ob c s txt W) (v : Value) : Ses B db bk ob c s txt (W.setCell ⟨c, 0, none⟩ v) := by
  obtain ⟨F, G, o, ho, hk, hd, hc, hbl, hfo, hcl, hn1, hn2, hn3, hn4, hn5⟩ := h
  have hcW := hk.frame hc
  obtain ⟨cs, t, fr, rfl⟩ : ∃ cs t fr, o = .cells cs t fr := by
    cases o with
    | cells cs t fr => exact ⟨cs, t, fr, rfl⟩
    | _ => cases ho
  have keep : ∀ k, k ≠ c → (W.setCell ⟨c, 0, none⟩ v).heap[k]? = W.heap[k]? := fun k hk => Below.heap_setCell _ _ _ k hk
  obtain ⟨o2, ho2, hc2⟩ : ∃ o2 : Obj, o2.isCells = true ∧ (W.setCell ⟨c, 0, none⟩ v).heap[c]? = some o2 := by
    refine ⟨_, ?_, by simp [World.setCell, Array.getElem?_modify, hcW]; rfl⟩
    rfl
  refine ⟨upd F c o2, G, o2, ho2, hk.turn (fun k h1 _ => keep k (fun e => by rw [e, hc] at h1; cases h1)) (fun k o1 h1 => ?_), (upd_ne (fun e => hn3 e.symm)).trans hd, upd_self _ _ _, hbl.stay (keep _ hn2) (fun x hx => keep _ (fun e => hn5 (by rw [hx, e]))), fun x hx => ?_, fun k o1 h1 => ?_, hn1, hn2, hn3, hn4, hn5⟩
  · by_cases hkc : k = c
    · subst hkc
      rw [upd_self] at h1
      obtain rfl := Option.some.inj h1
      exact ⟨hc2, _, hc⟩
    · rw [upd_ne hkc] at h1
      exact ⟨(keep k hkc).trans (hk.frame h1), _, h1⟩
  · obtain ⟨o1, h1⟩ := hfo x hx
    exact ⟨o1, (upd_ne (fun e => by
      rcases hx with hx | hx
      · exact hn2 (by rw [← hx, e])
      · exact hn5 (by rw [hx, e]))).trans h1⟩
  · by_cases hkc : k = c
    · subst hkc; rw [upd_self] at h1; obtain rfl := Option.some.inj h1; exact ho2
    · rw [upd_ne hkc] at h1; exact hcl _ _ h1
/-- The start: a new book, the desk, an empty builder, the iterator's cell. -/
theorem Ses.make {w w1 : World} (hk : Bk nF w.heap.size w.heap.size [] [] 0 w1) (hz : w.heap.size ≤ w1.heap.size) (o : Value) (t : TypeId) :
    Ses w.heap.size w1.heap.size w.heap.size (w1.heap.size + 1) (w1.heap.size + 1 + 1) ⟨[], [], 0⟩ [] (((w1.alloc (dObj w.heap.size)).alloc (.cells #[.pointer none, .slice none 0 0] 56)).alloc (.cells #[o] t)) := by
  obtain ⟨W, hW⟩ : ∃ W, ((w1.alloc (dObj w.heap.size)).alloc (.cells #[.pointer none, .slice none 0 0] 56)).alloc (.cells #[o] t) = W := ⟨_, rfl⟩
  have a1 : W.heap[w1.heap.size]? = some (dObj w.heap.size) := by
    rw [← hW, Lib.alloc_old _ _ _ (by simp; omega), Lib.alloc_old _ _ _ (by simp)]; exact heap_alloc_new w1 _
  have a2 : W.heap[w1.heap.size + 1]? = some (.cells #[.pointer none, .slice none 0 0] 56 (0, 0)) := by
    rw [← hW, Lib.alloc_old _ _ _ (by simp)]
    have := heap_alloc_new (w1.alloc (dObj w.heap.size)) (.cells #[.pointer none, .slice none 0 0] 56)
    rwa [World.size_alloc] at this
  have a3 : W.heap[w1.heap.size + 1 + 1]? = some (.cells #[o] t (0, 0)) := by
    rw [← hW]
    have := heap_alloc_new ((w1.alloc (dObj w.heap.size)).alloc (.cells #[.pointer none, .slice none 0 0] 56)) (.cells #[o] t)
    rwa [World.size_alloc, World.size_alloc] at this
  have keep : ∀ k, k < w1.heap.size → W.heap[k]? = w1.heap[k]? := fun k hk => by
    rw [← hW, Lib.alloc_old _ _ _ (by simp; omega), Lib.alloc_old _ _ _ (by simp; omega), Lib.alloc_old _ _ _ hk]
  rw [hW]
  refine ⟨fun k => if w1.heap.size ≤ k then (if k ≤ w1.heap.size + 1 + 1 then W.heap[k]? else none) else none, none, .cells #[o] t (0, 0), rfl, hk.refence (Nat.le_refl _) (fun k o1 _ _ h1 _ => (keep k (Array.getElem?_eq_some_iff.1 h1).1).trans h1) (fun k o1 h1 => ?_), ?_, ?_, ⟨by omega, .pointer none, .slice none 0 0, a2, .inl rfl, World.ownsRow_nil _ _ _ _, rfl, by simp⟩, fun x hx => ?_, fun k o1 h1 => ?_, by omega, by omega, by omega, by simp, by simp⟩
  · try simp only [] at h1
    by_cases e : w1.heap.size ≤ k
    · rw [if_pos e] at h1
      by_cases e2 : k ≤ w1.heap.size + 1 + 1
      · rw [if_pos e2] at h1; exact ⟨h1, .inr (.inl e)⟩
      · rw [if_neg e2] at h1; cases h1
    · rw [if_neg e] at h1; cases h1
  · simp only []; rw [if_pos (Nat.le_refl _), if_pos (by omega)]; exact a1
  · simp only []; rw [if_pos (by omega), if_pos (by omega)]; exact a3
  · rcases hx with rfl | hx
    · exact ⟨_, by simp only []; rw [if_pos (by omega), if_pos (by omega)]; exact a2⟩
    · cases hx
  · try simp only [] at h1
    by_cases e : w1.heap.size ≤ k
    · rw [if_pos e] at h1
      by_cases e2 : k ≤ w1.heap.size + 1 + 1
      · rw [if_pos e2] at h1
        rcases (by omega : k = w1.heap.size ∨ k = w1.heap.size + 1 ∨ k = w1.heap.size + 1 + 1) with rfl | rfl | rfl
        · rw [a1] at h1; obtain rfl := Option.some.inj h1; rfl
        · rw [a2] at h1; obtain rfl := Option.some.inj h1; rfl
        · rw [a3] at h1; obtain rfl := Option.some.inj h1; rfl
      · rw [if_neg e2] at h1; cases h1
    · rw [if_neg e] at h1; cases h1
end
end Go.Proofs.YteoofkinmilckaaGreatDoor
