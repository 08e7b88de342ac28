/- Words for slices of texts: how they read, one made of literals, append of one onto another of the call's own. -/
import Derived.Test.YtgmmlblefealjaaDoorWords
import Derived.Laws.AppendOwnNone
namespace Go.Proofs.YtgmmlblefealjaaDoor
open Go.RowKit

/-- The k-th text of a list. A name that simp does not open. -/
def li (ls : List (List UInt8)) (k : Nat) : List UInt8 := ls[k]?.getD []
theorem li_eq {ls : List (List UInt8)} {k : Nat} (h : k < ls.length) : li ls k = ls[k] := by unfold li; rw [List.getElem?_eq_getElem h]; rfl
/-- A text as a value. -/
def sv (l : List UInt8) : Value := .string ⟨l.toArray⟩

/-- The value '.slice A n c' reads as the list of texts ls, in blocks below B. -/
def Strs (w : World) (B : Nat) (A : Option Addr) (n : Nat) (ls : List (List UInt8)) : Prop :=
  ls.length = n ∧ (0 < n → ∃ b off, A = some ⟨b, off, none⟩ ∧ b < B ∧ ∀ j, j < n → w.cell? ⟨b, off + j, none⟩ = some (.string ⟨(li ls j).toArray⟩))
section
variable {w w' : World} {B B' n : Nat} {A : Option Addr} {l : List (List UInt8)}
theorem Strs.at_ (h : Strs w B A n l) {k : Nat} (hk : k < n) :
    ∃ b off, A = some ⟨b, off, none⟩ ∧ b < B ∧ w.cell? ⟨b, off + k, none⟩ = some (.string ⟨(li l k).toArray⟩) := by
  obtain ⟨b, off, e, hb, hc⟩ := h.2 (by omega)
  exact ⟨b, off, e, hb, hc k hk⟩
theorem Strs.keep (h : Strs w B A n l) (hk : ∀ p : Addr, p.block < B → w'.cell? p = w.cell? p) : Strs w' B A n l :=
  ⟨h.1, fun hn => by
    obtain ⟨b, off, e, hb, hc⟩ := h.2 hn
    exact ⟨b, off, e, hb, fun j hj => (hk _ hb).trans (hc j hj)⟩⟩
theorem Strs.more (h : Strs w B A n l) (hB : B ≤ B') : Strs w B' A n l :=
  ⟨h.1, fun hn => by
    obtain ⟨b, off, e, hb, hc⟩ := h.2 hn
    exact ⟨b, off, e, by omega, hc⟩⟩
theorem Strs.below (h : Strs w B A n l) (hb : Below B w w') : Strs w' B A n l := h.keep fun _ hp => hb.cell hp
theorem Strs.of_own {base e c : Nat} (h : w.ownsRow base e 1 (.slice A n c) n (l.map sv)) : Strs w w.heap.size A n l := by
  refine ⟨by simpa using h.1, fun hn => ?_⟩
  rcases h.2 with ⟨_, h0⟩ | ⟨g, cap, cur, hv, _, hg, _⟩
  · omega
  · have hA : A = some ⟨g, 0, none⟩ := by injection hv
    subst hA
    have hlt : g < w.heap.size := (Array.getElem?_eq_some_iff.1 hg).1
    refine ⟨g, 0, rfl, hlt, fun j hj => ?_⟩
    have hl : l.length = n := by simpa using h.1
    have := h.cells (g := g) rfl j (.string ⟨(li l j).toArray⟩) (by rw [List.getElem?_map, List.getElem?_eq_getElem (by omega), li_eq (by omega)]; rfl)
    rwa [Addr.add_lit] at this
end
/-- []string{s}, a new block. -/
theorem own_one {w : World} {base e : Nat} (hb : base ≤ w.heap.size) (s : List UInt8) :
    (w.alloc (.cells #[.string ⟨s.toArray⟩] e)).ownsRow base e 1 (.slice (some ⟨w.heap.size, 0, none⟩) 1 1) 1 ([s].map sv) :=
  World.ownsRow_lit w #[.string ⟨s.toArray⟩] 1 hb (by simp [maxLen]) rfl

/-- append(s, x...), s the call's own, x a slice of texts. -/
theorem wpList_appendS {P : Program} {w : World} {ops : Array Oper} {rest : List Oper} {o : Oper} {a : Act} {Q : Exit → Act → World → Prop} (hgd : o.guard = none) (s x : Operand) (t : TypeId)
    (ho : o.op = .call { callee := .builtin .append, args := #[s, x], argTypes := #[t, t] }) (e : TypeId) (i : TypeInfo) (z : Value) (ht : P.underlying t = some (.slice e)) (hi : P.info? e = some i) (hz : i.zero = some z)
    (hsize : i.size = 1) (hby : i.bytes ≤ 64) (hzs : z.cells.size = 1) (base : Nat) (v : Value) (n : Nat) (l : List (List UInt8)) (A : Option Addr) (m c : Nat) (ls : List (List UInt8)) (hs : a.eval s = v)
    (hx : a.eval x = .slice A m c) (hc0 : A = none → c = 0) (hown : w.ownsRow base e 1 v n (l.map sv)) (hr : Strs w w.heap.size A m ls) (hlen : n + m ≤ 1000000) (hbase : base ≤ w.heap.size)
    (h : ∀ v' w', w'.ownsRow base e 1 v' (n + m) ((l ++ ls).map sv) → Below base w w' → wpList P ops Q rest (a.put o.dst v') w') : wpList P ops Q (o :: rest) a w := by
  have hn : l.length = n := by simpa using hown.1
  have hbytes : (n + m) * i.bytes ≤ 140737488355328 := by
    have h1 : (n + m) * i.bytes ≤ 1000000 * 64 := Nat.mul_le_mul (by omega) hby
    omega
  cases A with
  | none =>
    have hm : m = 0 := by
      rcases Nat.eq_zero_or_pos m with h0 | h0
      · exact h0
      · obtain ⟨b, off, e', _⟩ := hr.2 h0; cases e'
    subst hm
    obtain rfl := hc0 rfl
    have hls : ls = [] := List.eq_nil_of_length_eq_zero hr.1
    subst hls
    refine wpList_append_own_none hgd s x t ho base e i 1 ht hi v n (l.map sv) hs hown hx ?_
    exact h v w (by simpa using hown) (Below.refl _ _)
  | some ad =>
    refine wpList_append_own (P := P) w hgd s x t ho base e i z 1 i.bytes ht hi hz hsize rfl hzs (by omega) v n (l.map sv) hs hown ad m c (ls.map sv) hx (by simpa using hr.1) ?_ ?_ ?_ hbytes hbase ?_
    · intro j u hj
      rw [List.getElem?_map] at hj
      have hjl : j < ls.length := by
        rcases Nat.lt_or_ge j ls.length with h' | h'
        · exact h'
        · rw [List.getElem?_eq_none h'] at hj; cases hj
      obtain ⟨b, off, e', hb, hcell⟩ := hr.2 (by have := hr.1; omega)
      injection e' with e'
      subst e'
      have := hcell j (by have := hr.1; omega)
      rw [List.getElem?_eq_getElem hjl] at hj
      have hu : sv ls[j] = u := by simpa using hj
      rw [li_eq hjl] at this
      have e2 : (⟨b, off, none⟩ : Addr).add j = ⟨b, off + j, none⟩ := by unfold Addr.add; split <;> simp_all
      rw [e2, this, ← hu]; rfl
    · intro u hu
      obtain ⟨x, _, rfl⟩ := List.mem_map.1 hu
      rfl
    · simp only [maxLen]; omega
    · intro v' w' h1 h2 _
      refine h v' w' (by rw [List.map_append]; exact h1) ((Below.refl base w).grown h2 hbase (fun k hk => own_lt hown hk))
end Go.Proofs.YtgmmlblefealjaaDoor
