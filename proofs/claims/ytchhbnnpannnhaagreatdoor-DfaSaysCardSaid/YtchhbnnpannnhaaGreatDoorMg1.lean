/- Texts joined, each with its own conditions. (1) Small plain words on lists. (2) Words for memory that all walks of this seat use: a slice that reads as a list of integers, a block known whole, and small laws on them. (3) Maps whose elements are all true, as sets of keys: laws at the operations. No condition. (4) The keys int and [2]int; maps.Clone, maps.Copy, nfa.both, at sets of ints. No condition. -/
import Derived.Test.YtchhbnnpannnhaaGreatDoorRows
import Derived.WalkKit
import Derived.WalkSpells
import Derived.WalkLawsBesides
import Derived.BigQuiet
import Derived.Lib.Hide
import Derived.Outline
import Derived.Deep.Draws
import Derived.Deep.QuietTactic
import Derived.Deep.DeepCutAuto
import Derived.Deep.Light
import Derived.BigRegion
import Derived.Deep.DeepFit
import Derived.Deep.DeepMust
import Derived.Maps.Own
import Derived.Maps.OwnOps
import Derived.Maps.OwnSet
import Derived.Maps.RangeWalk
import Derived.Maps.Views
import Derived.Laws.Externs
import Derived.MapKept
import Derived.DeepKeys4
namespace Go.Proofs.YtchhbnnpannnhaaGreatDoor
/-- The k-th number of a list (0 behind its end). A name that simp does not open. -/
def gi (l : List Int) (k : Nat) : Int := l[k]?.getD 0
theorem gi_eq {l : List Int} {k : Nat} (h : k < l.length) : gi l k = l[k] := by unfold gi; rw [List.getElem?_eq_getElem h]; rfl
theorem gi_set {l : List Int} {i : Nat} {x : Int} {j : Nat} : gi (l.set i x) j = if i = j then (if i < l.length then x else 0) else gi l j := by
  unfold gi
  rw [List.getElem?_set]
  split
  · split <;> rfl
  · rfl
theorem gi_set_ne {l : List Int} {i j : Nat} {x : Int} (h : i ≠ j) : gi (l.set i x) j = gi l j := by rw [gi_set, if_neg h]
theorem gi_set_self {l : List Int} {i : Nat} {x : Int} (h : i < l.length) : gi (l.set i x) i = x := by rw [gi_set, if_pos rfl, if_pos h]
theorem gi_replicate (n : Nat) (j : Nat) : gi (List.replicate n 0) j = 0 := by
  unfold gi; rw [List.getElem?_replicate]; split <;> rfl
theorem gi_mem {l : List Int} {k : Nat} (h : k < l.length) : gi l k ∈ l := by rw [gi_eq h]; exact List.getElem_mem h
theorem gi_drop {l : List Int} {i k : Nat} : gi (l.drop i) k = gi l (i + k) := by unfold gi; rw [List.getElem?_drop]
theorem gi_take {l : List Int} {i k : Nat} (h : k < i) : gi (l.take i) k = gi l k := by unfold gi; rw [List.getElem?_take_of_lt h]
theorem take_succ_gi {l : List Int} {k : Nat} (h : k < l.length) : l.take (k + 1) = l.take k ++ [gi l k] := by
  rw [List.take_succ_eq_append_getElem h, gi_eq h]
theorem drop_gi {l : List Int} {k : Nat} (h : k < l.length) : l.drop k = gi l k :: l.drop (k + 1) := by
  rw [List.drop_eq_getElem_cons h, gi_eq h]
theorem gi_out {l : List Int} {k : Nat} (h : l.length ≤ k) : gi l k = 0 := by unfold gi; rw [List.getElem?_eq_none h]; rfl

/-- The k-th byte of a text (0 behind its end). A name that simp does not open. -/
def bu (l : List UInt8) (k : Nat) : UInt8 := l[k]?.getD 0
theorem bu_eq {l : List UInt8} {k : Nat} (h : k < l.length) : bu l k = l[k] := by unfold bu; rw [List.getElem?_eq_getElem h]; rfl
theorem bu_mem {l : List UInt8} {k : Nat} (h : k < l.length) : bu l k ∈ l := by rw [bu_eq h]; exact List.getElem_mem h
theorem bu_drop {l : List UInt8} {i k : Nat} : bu (l.drop i) k = bu l (i + k) := by unfold bu; rw [List.getElem?_drop]
theorem bu_take {l : List UInt8} {i k : Nat} (h : k < i) : bu (l.take i) k = bu l k := by unfold bu; rw [List.getElem?_take_of_lt h]
theorem drop_bu {l : List UInt8} {k : Nat} (h : k < l.length) : l.drop k = bu l k :: l.drop (k + 1) := by rw [List.drop_eq_getElem_cons h, bu_eq h]
theorem take_succ_bu {l : List UInt8} {k : Nat} (h : k < l.length) : l.take (k + 1) = l.take k ++ [bu l k] := by rw [List.take_succ_eq_append_getElem h, bu_eq h]
theorem bu_out {l : List UInt8} {k : Nat} (h : l.length ≤ k) : bu l k = 0 := by unfold bu; rw [List.getElem?_eq_none h]; rfl
end Go.Proofs.YtchhbnnpannnhaaGreatDoor

namespace Go.Proofs.YtchhbnnpannnhaaGreatDoor
open Go.RowKit

theorem bcell {W w1 : World} {B : Nat} (hb : Below B W w1) : (∀ b o, b < B → w1.cell? ⟨b, o, none⟩ = W.cell? ⟨b, o, none⟩) ∧ (∀ b o, b < B → w1.frozen? ⟨b, o, none⟩ = W.frozen? ⟨b, o, none⟩) :=
  ⟨fun b o h => hb.cell (p := ⟨b, o, none⟩) h, fun b o h => hb.frozen (p := ⟨b, o, none⟩) h⟩
theorem ret_int {k : IntKind} {a b : Int} (h : a = b) : Ending.returned (.int k a) = .returned (.int k b) := by rw [h]
theorem ret_bool {a b : Bool} (h : a = b) : Ending.returned (.bool a) = .returned (.bool b) := by rw [h]
theorem below_drewN {B : Nat} {a w : World} (h : Below B a w) (n : Nat) : Below B a (w.drewN n) := ⟨h.os, h.tape, h.output, h.size, h.block⟩

/-- The value '.slice A n c' reads as the list l of ints, in blocks below B. -/
def Ints (w : World) (B : Nat) (A : Option Addr) (n : Nat) (l : List Int) : Prop :=
  l.length = n ∧ (0 < n → ∃ b off, A = some ⟨b, off, none⟩ ∧ b < B ∧ ∀ j, j < n → w.cell? ⟨b, off + j, none⟩ = some (.int .i64 (gi l j)))

section
variable {w w' : World} {B B' n : Nat} {A : Option Addr} {l : List Int}
theorem Ints.at_ (h : Ints w B A n l) {k : Nat} (hk : k < n) :
    ∃ b off, A = some ⟨b, off, none⟩ ∧ b < B ∧ w.cell? ⟨b, off + k, none⟩ = some (.int .i64 (gi l k)) := by
  obtain ⟨b, off, e, hb, hc⟩ := h.2 (by omega)
  exact ⟨b, off, e, hb, hc k hk⟩
theorem Ints.nil_ (w : World) (B : Nat) (A : Option Addr) : Ints w B A 0 [] := ⟨rfl, fun h => absurd h (by omega)⟩
theorem Ints.keep (h : Ints w B A n l) (hk : ∀ p : Addr, p.block < B → w'.cell? p = w.cell? p) : Ints w' B A n l :=
  ⟨h.1, fun hn => by
    obtain ⟨b, off, e, hb, hc⟩ := h.2 hn
    exact ⟨b, off, e, hb, fun j hj => (hk _ hb).trans (hc j hj)⟩⟩
theorem Ints.more (h : Ints w B A n l) (hB : B ≤ B') : Ints w B' A n l :=
  ⟨h.1, fun hn => by
    obtain ⟨b, off, e, hb, hc⟩ := h.2 hn
    exact ⟨b, off, e, by omega, hc⟩⟩
theorem Ints.below (h : Ints w B A n l) (hb : Below B w w') : Ints w' B A n l := h.keep fun _ hp => hb.cell hp
theorem Ints.drew (h : Ints w B A n l) : Ints w.drew B A n l := h
theorem Ints.drewN (h : Ints w B A n l) (k : Nat) : Ints (w.drewN k) B A n l := h
theorem Ints.alloc (h : Ints w B A n l) (hB : B ≤ w.heap.size) (o : Obj) : Ints (w.alloc o) B A n l := h.keep fun p hp => World.cell?_alloc_lt w o p (by omega)
/-- A cut 's[i:j]' of what reads as l reads as the cut of l. -/
theorem Ints.cut (h : Ints w B A n l) {i j : Nat} (hij : i ≤ j) (hj : j ≤ n) {A' : Option Addr} (hA : i < j → A' = A.map (·.add i)) :
    Ints w B A' (j - i) ((l.drop i).take (j - i)) := by
  refine ⟨by rw [List.length_take, List.length_drop, h.1]; omega, fun hn => ?_⟩
  obtain ⟨b, off, rfl, hb, hc⟩ := h.2 (by omega)
  refine ⟨b, off + i, ?_, hb, fun k hk => ?_⟩
  · rw [hA (by omega)]
    simp only [Option.map_some, Addr.add]
    split <;> simp_all
  · have := hc (i + k) (by omega)
    rw [gi_take hk, gi_drop, Nat.add_assoc]
    exact this
end

/-- Block g is just the cells cs of element type t, none frozen. -/
def Blk (w : World) (g : Nat) (t : TypeId) (cs : List Value) : Prop := w.heap[g]? = some (.cells cs.toArray t (0, 0))

section
variable {w w' : World} {g : Nat} {t : TypeId} {cs : List Value}
theorem Blk.lt (h : Blk w g t cs) : g < w.heap.size := by
  rcases Nat.lt_or_ge g w.heap.size with hlt | hge
  · exact hlt
  · unfold Blk at h; rw [Array.getElem?_eq_none hge] at h; cases h
theorem Blk.cell (h : Blk w g t cs) (i : Nat) : w.cell? ⟨g, i, none⟩ = cs[i]? := by
  rw [cell_of_row w g i cs.toArray t (0, 0) h]; simp
theorem Blk.frozen (h : Blk w g t cs) (i : Nat) : w.frozen? ⟨g, i, none⟩ = false := by
  unfold Blk at h
  simp [World.frozen?, h]
theorem Blk.new (w : World) (t : TypeId) (cs : List Value) : Blk (w.alloc (.cells cs.toArray t)) w.heap.size t cs := heap_alloc_new w _
theorem Blk.drew (h : Blk w g t cs) : Blk w.drew g t cs := h
theorem Blk.drewN (h : Blk w g t cs) (n : Nat) : Blk (w.drewN n) g t cs := h
theorem Blk.alloc (h : Blk w g t cs) (o : Obj) : Blk (w.alloc o) g t cs := (Below.heap_alloc w o g h.lt).trans h
theorem Blk.set_ (h : Blk w g t cs) (i : Nat) (u : Value) : Blk (w.setCell ⟨g, i, none⟩ u) g t (cs.set i u) := by
  unfold Blk at h ⊢
  simp [World.setCell, Array.getElem?_modify, h]
theorem Blk.far (h : Blk w g t cs) {p : Addr} (hp : g ≠ p.block) (u : Value) : Blk (w.setCell p u) g t cs := (Below.heap_setCell w p u g hp).trans h
theorem Blk.below {B : Nat} (h : Blk w g t cs) (hb : Below B w w') (hg : g < B) : Blk w' g t cs := (hb.block g hg).trans h
theorem Blk.grown {row : Option Nat} (h : Blk w g t cs) (hb : w.grownBy w' row) (hg : some g ≠ row) : Blk w' g t cs := (hb.block g h.lt hg).trans h
end

/-- The byte of a text, as the walk has it, by a name that simp doesn't open. -/
theorem byte_at (l : List UInt8) (k : Nat) (h : k < (ByteArray.mk l.toArray).size) : (ByteArray.mk l.toArray)[k] = bu l k := by
  have h' : k < l.length := by simpa [ByteArray.size] using h
  rw [bu_eq h']
  simp [ByteArray.getElem_eq_getElem_data]
theorem str_app (a b : List UInt8) : ByteArray.mk a.toArray ++ ByteArray.mk b.toArray = ByteArray.mk (a ++ b).toArray := by
  apply ByteArray.ext
  simp
theorem bu_lt (l : List UInt8) (k : Nat) : (bu l k).toNat < 256 := (bu l k).toNat_lt

/-- make([]int, n): a new block of n zeros. -/
theorem mk_ints {P : Program} {t e : TypeId} {i : TypeInfo} {z : Value} (ht : P.underlying t = some (.slice e)) (hi : P.info? e = some i) (hz : i.zero = some z) (h1 : i.size = 1) (hc1 : z.cells = #[z])
    (hb : i.bytes ≤ 64) (n : Nat) (hn : n ≤ 100000) (W : World) :
    (Instr.makeSlice t (.int .i64 (n : Int)) (.int .i64 (n : Int))).run P W = .ok (.slice (some ⟨W.heap.size, 0, none⟩) n n) (W.alloc (.cells (List.replicate n z).toArray e)) := by
  have hbb : (i.bytes : Int) * (n : Int) ≤ 281474976710656 := by
    have h : i.bytes * n ≤ 64 * 100000 := Nat.mul_le_mul hb hn
    have h' : ((i.bytes * n : Nat) : Int) ≤ 281474976710656 := by omega
    rwa [Int.natCast_mul] at h'
  have hr := run_make (P := P) W t e i z ht hi hz .i64 .i64 n n (by omega) (Int.le_refl _) hbb (by omega)
  simp only [Int.toNat_natCast, h1, Nat.mul_one, hc1] at hr
  rw [hr]
  have := toList_madeCells_one z n
  rw [← this, Array.toArray_toList]

theorem own_lt {w : World} {base : Nat} {e : TypeId} {size n : Nat} {v : Value} {xs : List Value} (h : w.ownsRow base e size v n xs) {k : Nat} (hk : v.ownBlock = some k) : base ≤ k := (h.lt k hk).1
theorem own_base {w : World} {base base' : Nat} {e : TypeId} {size n : Nat} {v : Value} {xs : List Value} (h : w.ownsRow base e size v n xs) (hb : base' ≤ base) : w.ownsRow base' e size v n xs := by
  refine ⟨h.1, ?_⟩
  rcases h.2 with h2 | ⟨g, cap, cur, hv, hg, r⟩
  · exact .inl h2
  · exact .inr ⟨g, cap, cur, hv, by omega, r⟩
/-- What the call owns reads as a list of ints. -/
theorem Ints.of_own {w : World} {base e n c : Nat} {A : Option Addr} {l : List Int} (h : w.ownsRow base e 1 (.slice A n c) n (l.map (Value.int .i64))) : Ints w w.heap.size A n l := by
  refine ⟨by simpa using h.1, fun hn => ?_⟩
  rcases h.2 with ⟨_, h0⟩ | ⟨g, cap, cur, hv, _, hg, _⟩
  · omega
  · have hA : A = some ⟨g, 0, none⟩ := by injection hv
    subst hA
    have hlt : g < w.heap.size := (Array.getElem?_eq_some_iff.1 hg).1
    refine ⟨g, 0, rfl, hlt, fun j hj => ?_⟩
    have hl : l.length = n := by simpa using h.1
    have := h.cells (g := g) rfl j (.int .i64 (gi l j)) (by rw [List.getElem?_map, List.getElem?_eq_getElem (by omega), gi_eq (by omega)]; rfl)
    rwa [Addr.add_lit] at this
/-- The shape of what is owned. -/
theorem own_shape {w : World} {base e size n : Nat} {v : Value} {xs : List Value} (h : w.ownsRow base e size v n xs) : ∃ A c, v = .slice A n c ∧ n ≤ c := by
  rcases h.2 with ⟨rfl, rfl⟩ | ⟨g, cap, cur, rfl, _, _, hc, _⟩
  · exact ⟨none, 0, rfl, Nat.le_refl _⟩
  · exact ⟨_, cap, rfl, hc⟩
theorem own_below {w w' : World} {base B : Nat} {e : TypeId} {size n : Nat} {v : Value} {xs : List Value} (h : w.ownsRow base e size v n xs) (hb : Below B w w') (hB : w.heap.size ≤ B) : w'.ownsRow base e size v n xs := by
  refine ⟨h.1, ?_⟩
  rcases h.2 with h2 | ⟨g, cap, cur, hv, hg, hh, r⟩
  · exact .inl h2
  · have hlt : g < w.heap.size := (Array.getElem?_eq_some_iff.1 hh).1
    exact .inr ⟨g, cap, cur, hv, hg, (hb.block g (by omega)).trans hh, r⟩

/-- append(s, u) where s is the call's own: one cell more; nothing below 'base' turns. -/
theorem wpList_append1 {P : Program} {w : World} {ops : Array Oper} {rest : List Oper} {o : Oper} {a : Act} {Q : Exit → Act → World → Prop} (hgd : o.guard = none) (s x : Operand) (t : TypeId)
    (ho : o.op = .call { callee := .builtin .append, args := #[s, x], argTypes := #[t, t] }) (e : TypeId) (i : TypeInfo) (z : Value) (ht : P.underlying t = some (.slice e)) (hi : P.info? e = some i) (hz : i.zero = some z)
    (hsize : i.size = 1) (hby : i.bytes ≤ 64) (hzs : z.cells.size = 1) (base : Nat) (v : Value) (l : List Value) (u : Value) (hu : u.oneCell' = true) (hs : a.eval s = v)
    (hx : a.eval x = .slice (some ⟨w.heap.size, 0, none⟩) 1 1) (hown : w.ownsRow base e 1 v l.length l) (hlen : l.length ≤ 1000000) (hbase : base ≤ w.heap.size)
    (h : ∀ v' w', w'.ownsRow base e 1 v' (l ++ [u]).length (l ++ [u]) → Below base w w' → wpList P ops Q rest (a.put o.dst v') w') :
    wpList P ops Q (o :: rest) a (w.alloc (.cells #[u] e)) := by
  refine wpList_append_own (P := P) (w.alloc (.cells #[u] e)) hgd s x t ho base e i z 1 i.bytes ht hi hz hsize rfl hzs (by omega) v l.length l hs (hown.alloc _) ⟨w.heap.size, 0, none⟩ 1 1 [u] hx rfl ?_ ?_ ?_ ?_ ?_ ?_
  · intro j u' hj
    match j, hj with
    | 0, hj =>
      have : u = u' := by simpa using hj
      subst this
      simp [Addr.add, World.cell?_alloc_new]
  · intro u' hu'; simp at hu'; subst hu'; exact hu
  · simp only [maxLen]; omega
  · have h1 : (l.length + 1) * i.bytes ≤ 1000001 * 64 := Nat.mul_le_mul (by omega) hby
    omega
  · simp; omega
  · intro v' w' h1 h2 _
    refine h v' w' (by simpa using h1) ?_
    refine ((Below.refl base w).alloc hbase _).grown h2 (by simp; omega) (fun k hk => ?_)
    exact own_lt hown hk
end Go.Proofs.YtchhbnnpannnhaaGreatDoor

namespace Go.Proofs.YtchhbnnpannnhaaGreatDoor
open Go.RowKit Go.Maps
open Go.WideElems (rg)
set_option linter.unusedVariables false

def R1 : Value → Option (DataW Unit × List MemPlace)
  | .bool true => some (.lit (.bool true), [])
  | _ => none
theorem R1_inv {v : Value} {y : DataW Unit × List MemPlace} (h : R1 v = some y) : v = .bool true := by
  unfold R1 at h
  split at h
  · rfl
  · cases h
theorem len_of_sub {β : Type} : ∀ (l U : List β), l.Pairwise (fun a b => a ≠ b) → (∀ x ∈ l, x ∈ U) → l.length ≤ U.length
  | [], U, _, _ => Nat.zero_le _
  | a :: l, U, hp, hs => by
    obtain ⟨U1, U2, rfl⟩ := List.append_of_mem (hs a (by simp))
    rw [List.pairwise_cons] at hp
    have := len_of_sub l (U1 ++ U2) hp.2 fun x hx => by
      have h1 := hs x (by simp [hx])
      rw [List.mem_append, List.mem_cons] at h1
      rw [List.mem_append]
      rcases h1 with h1 | rfl | h1
      · exact .inl h1
      · exact absurd rfl (hp.1 _ hx)
      · exact .inr h1
    simp only [List.length_append, List.length_cons] at this ⊢
    omega

/-- Keys of one type, few of them. -/
structure KeyE {α : Type} (P : Program) (k : TypeId) (enc : α → Value) (ok : α → Prop) : Prop where
  K : Keyed P k
  read : ∀ x, ok x → ∃ kl, keyOf P k (enc x) = some kl
  one : ∀ x y, enc x = enc y → x = y
  few : ∃ U : List α, U.length ≤ 100000 ∧ ∀ x, ok x → x ∈ U

section
variable {α : Type} {P : Program} {k : TypeId} {enc : α → Value} {ok : α → Prop} {w w' : World} {b r : Nat} {L : List α} {left : α → Prop} {cnt : Nat}

/-- Block b is a map: each key of L, with true. -/
def MSet (P : Program) (k : TypeId) (enc : α → Value) (ok : α → Prop) (w : World) (b : Nat) (L : List α) : Prop :=
  (∀ x ∈ L, ok x) ∧ ∃ D : DataW Unit, w.ownsMap P k R1 b (Maps.size D) D ∧ ∀ v kl, keyOf P k v = some kl → (Maps.has D kl = true ↔ ∃ x ∈ L, v = enc x)
/-- .. and a range over it is under way. -/
def RSet (P : Program) (k : TypeId) (enc : α → Value) (ok : α → Prop) (w : World) (b r : Nat) (L : List α) (left : α → Prop) (cnt : Nat) : Prop :=
  (∀ x ∈ L, ok x) ∧ ∃ (D : DataW Unit) (lf : Lit → Bool), w.ranges P k R1 b r (Maps.size D) D lf cnt ∧ (∀ v kl, keyOf P k v = some kl → (Maps.has D kl = true ↔ ∃ x ∈ L, v = enc x)) ∧
    (∀ kl, lf kl = true → Maps.has D kl = true) ∧ ∀ x kl, keyOf P k (enc x) = some kl → (lf kl = true ↔ left x)
theorem MSet.congr (h : MSet P k enc ok w b L) {L' : List α} (he : ∀ x, x ∈ L ↔ x ∈ L') : MSet P k enc ok w b L' := by
  obtain ⟨h1, D, h2, h3⟩ := h
  exact ⟨fun x hx => h1 x ((he x).2 hx), D, h2, fun v kl hk => by
    rw [h3 v kl hk]
    exact ⟨fun ⟨x, hx, e⟩ => ⟨x, (he x).1 hx, e⟩, fun ⟨x, hx, e⟩ => ⟨x, (he x).2 hx, e⟩⟩⟩
theorem MSet.lt (h : MSet P k enc ok w b L) : b < w.heap.size := by
  obtain ⟨_, D, h2, _⟩ := h
  exact h2.lt
theorem MSet.kept {row : Option Nat} (h : MSet P k enc ok w b L) (hg : w.grownBy w' row) (hne : some b ≠ row) : MSet P k enc ok w' b L := by
  obtain ⟨h1, D, h2, h3⟩ := h
  exact ⟨h1, D, h2.kept hg hne, h3⟩
theorem MSet.block {b' : Nat} (h : MSet P k enc ok w b L) (he : w'.heap[b']? = w.heap[b]?) : MSet P k enc ok w' b' L := by
  obtain ⟨h1, D, ⟨es, clock, hb, F, hs, hD⟩, h3⟩ := h
  exact ⟨h1, D, ⟨es, clock, he.trans hb, F, hs, hD⟩, h3⟩
theorem MSet.below (h : MSet P k enc ok w b L) {B : Nat} (hb : Below B w w') (hB : b < B) : MSet P k enc ok w' b L := h.block (hb.block b hB)
theorem MSet.alloc (h : MSet P k enc ok w b L) (o : Obj) : MSet P k enc ok (w.alloc o) b L := h.kept (World.grownBy_alloc w o none) (by simp)
theorem MSet.copied (h : MSet P k enc ok w b L) : ∃ es clock, w.heap[b]? = some (.map es clock) ∧ MSet P k enc ok (w.alloc (.map es clock)) w.heap.size L := by
  obtain ⟨h1, D, ⟨es, clock, hb, F, hs, hD⟩, h3⟩ := h
  exact ⟨es, clock, hb, h1, D, ⟨es, clock, heap_alloc_new w _, F, hs, hD⟩, h3⟩
theorem MSet.made (P : Program) (k : TypeId) (enc : α → Value) (ok : α → Prop) (w : World) : MSet P k enc ok (w.alloc (.map #[] 0)) w.heap.size [] :=
  ⟨fun x hx => (by cases hx), .map [], World.ownsMap_made w P k R1, fun v kl _ => by
    constructor
    · intro h; cases h
    · rintro ⟨x, hx, _⟩; cases hx⟩
theorem own_tight {D : DataW Unit} {n : Nat} (h : w.ownsMap P k R1 b n D) : w.ownsMap P k R1 b (Maps.size D) D := by
  obtain ⟨es, clock, hb, F, hs, hD⟩ := h
  refine ⟨es, clock, hb, F, ?_, hD⟩
  rw [hD]
  show es.size ≤ ((es.toList.map (rg P k R1)).foldr DataW.insert []).length
  rw [length_sorted]; simp
theorem MSet.small (E : KeyE P k enc ok) {D : DataW Unit} (hL : ∀ x ∈ L, ok x) (h : w.ownsMap P k R1 b (Maps.size D) D) (h3 : ∀ v kl, keyOf P k v = some kl → (Maps.has D kl = true ↔ ∃ x ∈ L, v = enc x)) : Maps.size D ≤ 100000 := by
  obtain ⟨U, hU, hin⟩ := E.few
  obtain ⟨es0, e0, hp, hk⟩ := h.entries E.K
  obtain ⟨es, clock, hb, F, hs, hD⟩ := h
  have hkeys : ∀ p ∈ es0, ∃ v, keyOf P k v = some p.1 := by
    intro p hp'
    have e1 := hD
    rw [e0] at e1
    injection e1 with e1
    rw [e1, mem_sorted] at hp'
    exact fit_keys F p hp'
  refine Nat.le_trans ?_ hU
  rw [e0]
  show es0.length ≤ U.length
  have h1 := len_of_sub (es0.map (·.1)) (U.filterMap fun x => keyOf P k (enc x)) (by rw [List.pairwise_map]; exact hp) (fun x hx => by
    obtain ⟨p, hp', rfl⟩ := List.mem_map.1 hx
    obtain ⟨v, hv⟩ := hkeys p hp'
    have hh : Maps.has D p.1 = true := by
      rw [e0, has_eq, List.any_eq_true]
      exact ⟨p, hp', WideAt.sameKey_self (hk p hp')⟩
    obtain ⟨y, hy, rfl⟩ := (h3 v p.1 hv).1 hh
    exact List.mem_filterMap.2 ⟨y, hin y (hL y hy), hv⟩)
  rw [List.length_map] at h1
  exact Nat.le_trans h1 (List.length_filterMap_le _ _)

theorem MSet.update (h : MSet P k enc ok w b L) (E : KeyE P k enc ok) {t e : TypeId} (ht : P.underlying t = some (.map k e)) (y : α) (hy : ok y) :
    ∃ w', (Instr.mapUpdate t (.map (some b)) (enc y) (.bool true)).run P w = .ok () w' ∧ MSet P k enc ok w' b (L ++ [y]) ∧ w.grownBy w' (some b) := by
  obtain ⟨hL, D, hown, hh⟩ := h
  obtain ⟨kl, hkl⟩ := E.read y hy
  have hsm := MSet.small E hL hown hh
  obtain ⟨w', hrun, hown', hg'⟩ := hown.update E.K ht (show Maps.size D < maxLen by unfold maxLen; omega) hkl (val := .bool true) (d := .lit (.bool true)) (ps := []) rfl
  refine ⟨w', hrun, ⟨fun z hz => ?_, _, own_tight hown', fun u kl' hk => ?_⟩, hg'⟩
  · rcases List.mem_append.1 hz with hz | hz
    · exact hL z hz
    · rw [List.mem_singleton.1 hz]; exact hy
  · by_cases he : kl' = kl
    · subst he
      rw [has_put_same hown.isMap (E.K.key hkl)]
      exact ⟨fun _ => ⟨y, by simp, E.K.inj hk hkl⟩, fun _ => rfl⟩
    · rw [has_put_other he, hh u kl' hk]
      constructor
      · rintro ⟨z, hz, e⟩; exact ⟨z, by simp [hz], e⟩
      · rintro ⟨z, hz, e⟩
        rcases List.mem_append.1 hz with hz | hz
        · exact ⟨z, hz, e⟩
        · rw [List.mem_singleton.1 hz] at e
          rw [e, hkl] at hk
          exact absurd (Option.some.inj hk).symm he
theorem wpList_set_store {w : World} {ops : Array Oper} {rest : List Oper} {o : Oper} {a : Act} {Q : Exit → Act → World → Prop} (hg : o.guard = none) (m x v : Operand) (t : TypeId) (hop : o.op = Op.mapUpdate t m x v)
    (e : TypeId) (E : KeyE P k enc ok) (ht : P.underlying t = some (.map k e)) (b : Nat) (L : List α) (hm : a.eval m = .map (some b)) (hs : MSet P k enc ok w b L) (y : α) (hy : ok y) (hx : a.eval x = enc y) (hv : a.eval v = .bool true)
    (hK : ∀ w', MSet P k enc ok w' b (L ++ [y]) → w.grownBy w' (some b) → wpList P ops Q rest (a.put o.dst undef) w') : wpList P ops Q (o :: rest) a w := by
  obtain ⟨w', hrun, h1, h2⟩ := hs.update E ht y hy
  refine wpList_plain hg fun K' hK' => ?_
  unfold Oper.wp
  simp [execOp, hop, hm, hx, hv, hrun, Result.andThen]
  exact hK' _ _ (hK w' h1 h2)
theorem wpList_set_look {w : World} {ops : Array Oper} {rest : List Oper} {o : Oper} {a : Act} {Q : Exit → Act → World → Prop} (hg : o.guard = none) (m x : Operand) (t : TypeId) (hop : o.op = Op.lookup t m x false)
    (e : TypeId) (E : KeyE P k enc ok) (ht : P.underlying t = some (.map k e)) (hz : (zeroValue e).run P w = .ok (.bool false) w) (b : Nat) (L : List α) (hm : a.eval m = .map (some b)) (hs : MSet P k enc ok w b L) (y : α) (hy : ok y) (hx : a.eval x = enc y)
    (hK : ∀ q : Bool, (q = true ↔ y ∈ L) → wpList P ops Q rest (a.put o.dst (.bool q)) w) : wpList P ops Q (o :: rest) a w := by
  obtain ⟨hL, D, hown, hh⟩ := hs
  obtain ⟨kl, hkl⟩ := E.read y hy
  have hiff : Maps.has D kl = true ↔ y ∈ L := by
    rw [hh _ kl hkl]
    constructor
    · rintro ⟨z, hz, e⟩; rw [E.one _ _ e]; exact hz
    · intro h; exact ⟨y, h, rfl⟩
  obtain ⟨es, clock, hb, F, hn, hD⟩ := hown
  refine wpList_plain hg fun K' hK' => ?_
  unfold Oper.wp
  rcases fit_look false E.K ht hz hb F hkl with ⟨hrun, hno, hat⟩ | ⟨e0, z, hm0, hk0, hrun, hRv, hat, _⟩
  · have hf : Maps.has D kl = false := by rw [hD]; exact has_false_of_atKey hat
    simp only [Bool.false_eq_true, if_false] at hrun
    simp [execOp, hop, hm, hx, hrun, Result.andThen]
    exact hK' _ _ (hK false (by rw [← hiff, hf]))
  · have hf : Maps.has D kl = true := by rw [hD]; exact has_true_of_atKey hat
    have he := R1_inv hRv
    simp only [Bool.false_eq_true, if_false, he] at hrun
    simp [execOp, hop, hm, hx, hrun, Result.andThen]
    exact hK' _ _ (hK true (by rw [← hiff, hf]))
theorem wpList_set_range {w : World} {ops : Array Oper} {rest : List Oper} {o : Oper} {a : Act} {Q : Exit → Act → World → Prop} (hg : o.guard = none) (m : Operand) (t : TypeId) (hop : o.op = Op.range t m)
    (e : TypeId) (E : KeyE P k enc ok) (ht : P.underlying t = some (.map k e)) (b : Nat) (L : List α) (hm : a.eval m = .map (some b)) (hs : MSet P k enc ok w b L)
    (hK : ∀ w' cnt, RSet P k enc ok w' b w.heap.size L (fun x => x ∈ L) cnt → w.grownBy w' none → w'.heap.size = w.heap.size + 1 → wpList P ops Q rest (a.put o.dst (.pointer (some ⟨w.heap.size, 0, none⟩))) w') : wpList P ops Q (o :: rest) a w := by
  obtain ⟨hL, D, hown, hh⟩ := hs
  refine wpList_range_own w hg m t hop k e E.K ht R1 b _ D hm hown ?_
  intro w' hr hg' hsz
  refine hK w' _ ⟨hL, D, _, hr, hh, fun kl h => h, fun x kl hk => ?_⟩ hg' hsz
  rw [hh _ kl hk]
  constructor
  · rintro ⟨z, hz, e⟩; rw [E.one _ _ e]; exact hz
  · intro h; exact ⟨x, h, rfl⟩
theorem wpList_set_next {w : World} {ops : Array Oper} {rest : List Oper} {o : Oper} {a : Act} {Q : Exit → Act → World → Prop} (hg : o.guard = none) (it : Operand) (hop : o.op = Op.next it false)
    (E : KeyE P k enc ok) (b r : Nat) (L : List α) (left : α → Prop) (cnt : Nat) (hit : a.eval it = .pointer (some ⟨r, 0, none⟩)) (h : RSet P k enc ok w b r L left cnt)
    (hDone : (∀ x ∈ L, ¬ left x) → wpList P ops Q rest (a.put o.dst (.tuple #[.bool false])) w)
    (hMore : ∀ (x : α) (w' : World) (cnt' : Nat), x ∈ L → left x → RSet P k enc ok w' b r L (fun z => left z ∧ z ≠ x) cnt' → cnt' < cnt → w.grownBy w' (some r) → w'.heap.size = w.heap.size →
      (Instr.entry (.pointer (some ⟨r, 0, none⟩))).run P w' = .ok (.tuple #[enc x, .bool true]) w' → wpList P ops Q rest (a.put o.dst (.tuple #[.bool true, enc x, .bool true])) w') : wpList P ops Q (o :: rest) a w := by
  obtain ⟨hL, D, lf, hr, hh, hlf, hl⟩ := h
  refine wpList_next_ranges (α := Value) (β := Unit) w hg it hop k E.K R1 id (fun _ => .bool true) (fun key _ _ => ⟨key, rfl⟩) (fun v y hv => ⟨(), R1_inv hv⟩) b r _ D lf cnt hit hr ?_ ?_
  · intro _ h0
    refine hDone fun x hx hlx => ?_
    obtain ⟨kl, hkl⟩ := E.read x (hL x hx)
    have := (hl x kl hkl).2 hlx
    rw [h0] at this
    cases this
  · intro v _ kl y w' cnt' hkey hlx hv hat hr' hlt hg' hsz hen
    obtain ⟨x, hx, rfl⟩ := (hh v kl hkey).1 (hlf kl hlx)
    refine hMore x w' cnt' hx ((hl x kl hkey).1 hlx) ⟨hL, D, _, hr', hh, fun kl' h => ?_, fun z kl' hk => ?_⟩ hlt hg' hsz hen
    · exact hlf kl' (Bool.and_eq_true .. ▸ h).1
    · rw [Bool.and_eq_true, hl z kl' hk, Bool.not_eq_true', ← Bool.not_eq_true, WideAt.sameKey_iff (E.K.key hkey)]
      refine and_congr_right fun _ => not_congr ⟨fun e => ?_, fun e => ?_⟩
      · subst e; exact E.one _ _ (E.K.inj hk hkey)
      · subst e
        have hkey' : keyOf P k (enc z) = some kl := hkey
        rw [hk] at hkey'
        exact Option.some.inj hkey'
theorem RSet.set (h : RSet P k enc ok w b r L left cnt) : MSet P k enc ok w b L := by
  obtain ⟨hL, D, lf, hr, hh, _, _⟩ := h
  exact ⟨hL, D, hr.owns, hh⟩
theorem RSet.kept {row : Option Nat} (h : RSet P k enc ok w b r L left cnt) (hg : w.grownBy w' row) (hb : some b ≠ row) (hr' : some r ≠ row) : RSet P k enc ok w' b r L left cnt := by
  obtain ⟨hL, D, lf, hr, hh, h1, h2⟩ := h
  exact ⟨hL, D, lf, hr.kept hg hb hr', hh, h1, h2⟩
theorem RSet.left_eq (h : RSet P k enc ok w b r L left cnt) : w.rangeLeft b r = cnt := by
  obtain ⟨hL, D, lf, hr, _⟩ := h
  exact hr.left_eq
theorem RSet.lt (h : RSet P k enc ok w b r L left cnt) : r < w.heap.size := by
  obtain ⟨hL, D, lf, hr, _⟩ := h
  exact hr.lt
theorem grown_of_below {B : Nat} (h : Below B w w') (hB : w.heap.size ≤ B) (row : Option Nat) : w.grownBy w' row := ⟨h.os, h.tape, h.output, h.size, fun i hi _ => h.block i (by omega)⟩
theorem below_of_grown (h : w.grownBy w' none) : Below w.heap.size w w' := ⟨h.os, h.tape, h.output, h.size, fun i hi => h.block i hi (by simp)⟩
end
end Go.Proofs.YtchhbnnpannnhaaGreatDoor

namespace Go.Proofs.YtchhbnnpannnhaaGreatDoor
open Go.RowKit Go.Maps
set_option linter.unusedVariables false

theorem laidOut : laidOutB Tryz.prog = true := by kernel_rfl
abbrev eI (i : Nat) : Value := .int .i64 (i : Int)
abbrev eJ (p : Nat × Nat) : Value := .agg #[.int .i64 (p.1 : Int), .int .i64 (p.2 : Int)]
def okI (i : Nat) : Prop := i < 64
def okJ (p : Nat × Nat) : Prop := p.1 < 64 ∧ p.2 < 64
theorem lawI : Keyed Tryz.prog 3 := int_keyed Tryz.underlying3
theorem rowJ : (92 : TypeId) < Tryz.prog.types.size := of_decide_eq_true (by kernel_rfl)
set_option maxRecDepth 100000 in
theorem lawJ : Keyed Tryz.prog 92 := Keyed.of_law (deep_law_laid laidOut (m := 2) (by omega) rowJ (by kernel_rfl) (by rw [Tryz.underlying92]))
theorem wfI {i : Nat} (h : i < 64) : (Lit.int .i64 (i : Int)).wf = true := WalkArith.wf_i64 (by omega)
theorem keyI : KeyE Tryz.prog 3 eI okI where
  K := lawI
  read := fun x h => ⟨_, keyOf_int_mk Tryz.underlying3 (wfI h)⟩
  one := fun x y h => by injection h with _ h; omega
  few := ⟨List.range 64, by simp, fun x h => List.mem_range.2 h⟩
theorem lits_int (d : Nat) {i : Nat} (h : i < 64) : Tryz.prog.keyLits (d + 1) 3 [.int .i64 (i : Int)] = some [.int .i64 (i : Int)] := by
  unfold Program.keyLits
  rw [Tryz.underlying3]
  simp [wfI h]
theorem lits_pair (d : Nat) (p : Nat × Nat) (h : okJ p) : Tryz.prog.keyLits (d + 2) 92 [.int .i64 (p.1 : Int), .int .i64 (p.2 : Int)] = some [.int .i64 (p.1 : Int), .int .i64 (p.2 : Int)] := by
  have c1 : Tryz.prog.cellsOf 92 = 2 := by kernel_rfl
  have c2 : Tryz.prog.cellsOf 3 = 1 := by kernel_rfl
  have h1 := lits_int d h.1
  have h2 := lits_int d h.2
  unfold Program.keyLits
  rw [Tryz.underlying92]
  simp [c1, c2, List.range_succ, h1, h2]
theorem keyJ : KeyE Tryz.prog 92 eJ okJ where
  K := lawJ
  read := fun p h => by
    have k1 : Tryz.prog.keyType 92 = true := by kernel_rfl
    have c1 : Tryz.prog.cellsOf 92 = 2 := by kernel_rfl
    have k2 : (eJ p).formed Tryz.prog 92 = true := by unfold Value.formed; rw [Tryz.underlying92]; simp [c1]
    obtain ⟨d, hd⟩ : ∃ d, Tryz.prog.types.size + 1 = d + 2 := ⟨Tryz.prog.types.size - 1, by have : 0 < Tryz.prog.types.size := Nat.lt_of_le_of_lt (Nat.zero_le _) rowJ; omega⟩
    unfold keyOf
    rw [Tryz.underlying92]
    simp only [k1, k2, Bool.and_self, if_true]
    rw [hd, show (eJ p).cells.toList = [.int .i64 (p.1 : Int), .int .i64 (p.2 : Int)] from rfl, lits_pair d p h]
    exact ⟨_, rfl⟩
  one := fun x y h => by
    have h' : (#[Value.int .i64 (x.1 : Int), .int .i64 (x.2 : Int)] : Array Value) = #[.int .i64 (y.1 : Int), .int .i64 (y.2 : Int)] := by injection h
    simp at h'
    exact Prod.ext (by omega) (by omega)
  few := ⟨(List.range 64).flatMap fun i => (List.range 64).map fun j => (i, j), by decide +kernel, fun p h => List.mem_flatMap.2 ⟨p.1, List.mem_range.2 h.1, List.mem_map.2 ⟨p.2, List.mem_range.2 h.2, rfl⟩⟩⟩
/-- Block b is a set of places; of pairs of places. -/
abbrev SI (w : World) (b : Nat) (L : List Nat) : Prop := MSet Tryz.prog 3 eI okI w b L
abbrev SJ (w : World) (b : Nat) (L : List (Nat × Nat)) : Prop := MSet Tryz.prog 92 eJ okJ w b L

section
variable {P : Program} (w : World)
theorem run_eqIn_mapN (d : Nat) (t k e : TypeId) (p : Option Nat) (h : P.underlying t = some (.map k e)) : (Op.equalIn (d + 1) t (.map p) (.map none)).run P w = .ok p.isNone w := by
  cases p <;> simp [Op.equalIn, run_underlying h]
theorem run_eql_mapN (t k e : TypeId) (p : Option Nat) (h : P.underlying t = some (.map k e)) : (binOp .eql t (.map p) (.map none)).run P w = .ok (.bool p.isNone) w := by
  simp only [binOp]
  simp [show Op.equal t (.map p) (.map none) = Op.equalIn (9999 + 1) t (.map p) (.map none) from rfl, run_eqIn_mapN w 9999 t k e p h]
theorem run_assert_map (t xT k e : TypeId) (v : Value) (h : P.underlying t = some (.map k e)) : (Instr.typeAssert (.iface t v) xT t false).run P w = .ok v w := by
  simp [Instr.typeAssert, run_underlying h, go_sem, Result.andThen]
theorem run_clone_map {r : Nat} {es : Array MapEntry} {clock : Nat} (t : TypeId) (hb : w.heap[r]? = some (.map es clock)) : (Extern.MapsClone.clone #[.iface t (.map (some r))]).run P w = .ok (.iface t (.map (some w.heap.size))) (w.alloc (.map es clock)) := by
  have e : Extern.MapsClone.clone #[.iface t (.map (some r))] = (getObj r >>= fun o => match o with
      | .map entries clock => (newObj (.map entries clock) >>= fun n => pure (.iface t (.map (some n))))
      | _ => stuck "maps.clone: a map expected") := rfl
  rw [e]
  simp [MapKept.run_getObj_map hb, Result.andThen, go_sem]
end
set_option maxRecDepth 100000 in
set_option maxHeartbeats 2000000 in
theorem clone_any (b : Nat) (L : List Nat) (w : World) (hs : SI w b L) :
    Calls Tryz.prog 75 #[.map (some b)] w fun e w' => e = .returned (.map (some w.heap.size)) ∧ SI w' w.heap.size L ∧ Below w.heap.size w w' := by
  obtain ⟨es, clock, hb, hc⟩ := hs.copied
  have hq := fun w => run_eql_mapN (P := Tryz.prog) w 89 _ _ (some b) Tryz.underlying89
  have HC := Lib.hid hc
  clear hc
  go_enter Tryz.func75, Tryz.ntmps75
  go_wp2
  rw [run_callFunc_extern Tryz.func99 (by kernel_rfl) (by kernel_rfl) (by kernel_rfl) (e := Extern.MapsClone.clone) (by kernel_rfl), run_clone_map w 89 hb]
  simp only [Result.andThen]
  rw [Oper.upon_value]
  go_wp2
  rw [run_assert_map _ 89 _ _ _ _ Tryz.underlying89]
  simp only [Result.andThen]
  rw [Oper.upon_value]
  go_wp2
  go_ret
  exact ⟨rfl, HC.out, (Below.refl _ w).alloc (Nat.le_refl _) _⟩
set_option maxRecDepth 100000 in
set_option maxHeartbeats 2000000 in
theorem copy_any (bd bs : Nat) (Ld Ls : List Nat) (w : World) (hd : SI w bd Ld) (hs : SI w bs Ls) (hne : bd ≠ bs) :
    Calls Tryz.prog 76 #[.map (some bd), .map (some bs)] w fun e w' => e = .returned (.tuple #[]) ∧ SI w' bd (Ld ++ Ls) ∧ w.grownBy w' (some bd) := by
  have hbd := hd.lt
  have hbs := hs.lt
  go_enter Tryz.func76, Tryz.ntmps76
  go_wp2_with (first
    | (at_range; refine wpList_set_range rfl _ 89 rfl _ keyI Tryz.underlying89 bs Ls rfl hs ?_; intro w0 cnt0 hrg0 hg0 hs0)
    | go_in)
  go_frame
  go_loopw [8] (fun _ wr => ∃ (left : Nat → Prop) (cnt : Nat) (Lo : List Nat), RSet Tryz.prog 3 eI okI wr bs w.heap.size Ls left cnt ∧ SI wr bd Lo ∧ (∀ x, x ∈ Lo ↔ x ∈ Ld ∨ (x ∈ Ls ∧ ¬ left x)) ∧ w.grownBy wr (some bd))
    (fun _ wr => wr.rangeLeft bs w.heap.size)
  case atStart =>
    exact ⟨_, _, Ld, hrg0, hd.kept hg0 (by simp), fun x => ⟨.inl, fun h => h.elim id fun h => absurd h.1 h.2⟩, hg0.but _⟩
  case round =>
    obtain ⟨left, cnt, Lo, hrg, hout, hM, hgw⟩ := hrel
    go_wp2_with (first
      | (at_next; refine wpList_set_next rfl _ rfl keyI bs w.heap.size Ls left cnt rfl hrg ?_ ?_)
      | go_in)
    · intro h0
      go_wp2
      go_end0
      exact ⟨rfl, hout.congr fun x => (hM x).trans ⟨fun h => List.mem_append.2 (h.imp id And.left), fun h => (List.mem_append.1 h).imp id fun h => ⟨h, h0 x h⟩⟩, hgw⟩
    · intro x w1 cnt1 hx hl hrg1 hlt hg1 hs1 hen
      have hout1 := hout.kept hg1 (fun e => by have := Option.some.inj e; omega)
      have hok := hs.1 x hx
      go_wp2_with (first
        | (at_mapUpdate; refine wpList_set_store rfl _ _ _ 89 rfl _ keyI Tryz.underlying89 bd Lo rfl hout1 x hok rfl rfl ?_; intro w2 hout2 hg2; go_frame)
        | go_in)
      have hrg2 := hrg1.kept hg2 (fun e => hne (Option.some.inj e).symm) (fun e => by have := Option.some.inj e; omega)
      go_roundw
      case rel =>
        refine ⟨_, cnt1, _, hrg2, hout2, fun z => ?_, (hgw.andThen hg1 (fun j hj => .inl (by cases hj; exact Nat.le_refl _))).andThen hg2 (fun j hj => .inr hj)⟩
        rw [List.mem_append, hM z, List.mem_singleton]
        constructor
        · rintro ((h | ⟨h1, h2⟩) | rfl)
          · exact .inl h
          · exact .inr ⟨h1, fun h => h2 h.1⟩
          · exact .inr ⟨hx, fun h => h.2 rfl⟩
        · rintro (h | ⟨h1, h2⟩)
          · exact .inl (.inl h)
          · by_cases e : z = x
            · exact .inr e
            · exact .inl (.inr ⟨h1, fun h => h2 ⟨h, e⟩⟩)
      case measure => rw [hrg2.left_eq, hrg.left_eq]; exact hlt
set_option maxRecDepth 100000 in
set_option maxHeartbeats 2000000 in
theorem both_any (a b : Nat) (La Lb : List Nat) (w : World) (ha : SI w a La) (hb : SI w b Lb) :
    Calls Tryz.prog 64 #[.map (some a), .map (some b)] w fun e w' => ∃ g, e = .returned (.map (some g)) ∧ w.heap.size ≤ g ∧ SI w' g (La ++ Lb) ∧ Below w.heap.size w w' := by
  have hc := clone_any a La w ha
  have hbl := hb.lt
  go_enter Tryz.func64, Tryz.ntmps64
  go_wp2_with fail
  refine hc.mono ?_
  rintro e w1 ⟨rfl, hs1, hb1⟩
  have hcp := copy_any w.heap.size b La Lb w1 hs1 (hb.below hb1 hbl) (by omega)
  go_wp2_with fail
  refine hcp.mono ?_
  rintro e w2 ⟨rfl, hs2, hg2⟩
  go_wp2_with fail
  go_ret
  exact ⟨_, rfl, Nat.le_refl _, hs2, hb1.grown hg2 hb1.size (fun j hj => by cases hj; exact Nat.le_refl _)⟩
end Go.Proofs.YtchhbnnpannnhaaGreatDoor
