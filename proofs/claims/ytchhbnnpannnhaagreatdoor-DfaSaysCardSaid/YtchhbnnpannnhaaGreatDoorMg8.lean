/- Texts joined, each with its own conditions. (1) The document's Letters and Signs: their walks. No condition. (2) What nfa.Of hands back, read; the laws' closed fact. No condition. (3) append of one element, with a word on all blocks but the slice's own; append to a slice that begins within its row (a queue). No condition. (4) append of a row that is read to a row that the call owns. No condition. (5) Every place of a pattern lies on a way; what a text of one sign is. No condition. (6) The least machine, its states numbered as they are met, in plain Lean. No condition. -/
import Derived.Test.YtchhbnnpannnhaaGreatDoorMg3
import Derived.Test.YtchhbnnpannnhaaGreatDoorMg2
import Derived.Lib.Strings
import Derived.Test.YtchhbnnpannnhaaGreatDoorNfH
import Derived.Test.YtchhbnnpannnhaaGreatDoorMg7
import Derived.Maps.AppendAt
import Derived.Maps.OwnRows
import Derived.Test.YtchhbnnpannnhaaGreatDoorNfI
namespace Go.Proofs.YtchhbnnpannnhaaGreatDoor
open Go.RowKit IntWalk
attribute [local go_sem] byte_at str_app

theorem str_one {a : List UInt8} {i : Nat} (h : i < a.length) : (ByteArray.mk a.toArray).extract i (i + 1) = ByteArray.mk [bu a i].toArray := by
  rw [Lib.extract_eq, show i + 1 - i = 1 by omega, List.drop_eq_getElem_cons h, bu_eq h]; rfl
theorem lets_step {s : List UInt8} {i : Nat} (h : i < s.length) : lets (s.take (i + 1)) = if isLo (bu s i) = true then lets (s.take i) ++ [bu s i] else lets (s.take i) := by
  rw [take_succ_bu h, lets_app]
  by_cases hl : isLo (bu s i) = true
  · rw [if_pos hl]; simp [lets, hl]
  · rw [if_neg hl]; simp [lets, hl]
theorem lets_len (s : List UInt8) : (lets s).length ≤ s.length := List.length_filter_le _ _
set_option maxHeartbeats 1000000 in
theorem letters_any (s : List UInt8) (w : World) (hl : s.length ≤ 1000) :
    Calls Tryz.prog 21 #[S s] w fun e w' => e = .returned (S (lets s)) ∧ w = w' := by
  have HR : Hid (lets s = lets (s.take s.length)) := Lib.hid (by rw [List.take_length])
  generalize lets s = R at *
  go_enter Tryz.func21, Tryz.ntmps21
  go_wp2_with fail
  go_loopg [3, 4] s.length (fun f ov iv wr => ∃ (i : Nat), i + f = s.length ∧ iv = .int .i64 (i : Int) ∧ ov = S (lets (s.take i)) ∧ wr = w)
  case atStart => exact ⟨0, by omega, rfl, rfl, rfl⟩
  case round =>
    obtain ⟨i, hif, rfl, rfl, rfl⟩ := hrel
    by_cases hlt : i < s.length
    · obtain ⟨f, rfl⟩ : ∃ f, gk = f + 1 := ⟨gk - 1, by omega⟩
      have hst := lets_step hlt
      have hll := lets_len (s.take i)
      rw [List.length_take] at hll
      have hx := str_one hlt
      have p1 : (i : Int) < (s.length : Int) := by omega
      have p2 : (0 : Int) ≤ (i : Int) := by omega
      have p3 : IntKind.i64.wrap ((i : Int) + 1) = (i : Int) + 1 := i64_in _ (by omega)
      have p4 : (i : Int) ≤ (i : Int) + 1 := by omega
      have p5 : (i : Int) + 1 ≤ (s.length : Int) := by omega
      have p6 : ((i : Int) + 1).toNat = i + 1 := by omega
      generalize lets (s.take i) = o at *
      have p7 : ¬ 9223372036854775807 < o.length + 1 := by omega
      generalize hc : bu s i = c at *
      by_cases ha : 97 ≤ c.toNat
      · have q1 : (97 : Int) ≤ (c.toNat : Int) := by omega
        by_cases hb : c.toNat ≤ 122
        · have q2 : (c.toNat : Int) ≤ 122 := by omega
          have HS : Hid (lets (s.take (i + 1)) = o ++ [c]) := Lib.hid (by rw [hst, if_pos]; unfold isLo; exact decide_eq_true ⟨UInt8.le_iff_toNat_le.2 ha, UInt8.le_iff_toNat_le.2 hb⟩)
          clear hst ha hb
          go_wp2_with fail
          go_roundg f
          case measure => omega
          case rel => exact ⟨i + 1, by omega, by simp, by rw [HS.out], rfl⟩
        · have q2 : ¬ (c.toNat : Int) ≤ 122 := by omega
          have HS : Hid (lets (s.take (i + 1)) = o) := Lib.hid (by rw [hst, if_neg]; unfold isLo; intro h; exact hb (UInt8.le_iff_toNat_le.1 (of_decide_eq_true h).2))
          clear hst ha hb
          go_wp2_with fail
          go_roundg f
          case measure => omega
          case rel => exact ⟨i + 1, by omega, by simp, by rw [HS.out], rfl⟩
      · have q1 : ¬ (97 : Int) ≤ (c.toNat : Int) := by omega
        have HS : Hid (lets (s.take (i + 1)) = o) := Lib.hid (by rw [hst, if_neg]; unfold isLo; intro h; exact ha (UInt8.le_iff_toNat_le.1 (of_decide_eq_true h).1))
        clear hst ha
        go_wp2_with fail
        go_roundg f
        case measure => omega
        case rel => exact ⟨i + 1, by omega, by simp, by rw [HS.out], rfl⟩
    · obtain rfl : i = s.length := by omega
      have p1 : ¬ (s.length : Int) < (s.length : Int) := by omega
      rw [← HR.out]
      go_wp2_with fail
      go_ret
      exact ⟨rfl, rfl⟩
end Go.Proofs.YtchhbnnpannnhaaGreatDoor

namespace Go.Proofs.YtchhbnnpannnhaaGreatDoor
open Go.RowKit Go.Maps
set_option linter.unusedVariables false

theorem ints_of_own {w : World} {D : Nat} {v : Value} {L : List Nat} (h : w.ownsRow D 3 1 v L.length (L.map eI)) : ∃ A c, v = .slice A L.length c ∧ Ints w w.heap.size A L.length (zs L) := by
  rcases h.2 with ⟨rfl, hz⟩ | ⟨g, cap, cur, rfl, hg, hh, h1, h2, h3, h4⟩
  · have : L = [] := List.eq_nil_of_length_eq_zero hz
    subst this
    exact ⟨none, 0, rfl, Ints.nil_ _ _ _⟩
  · refine ⟨some ⟨g, 0, none⟩, cap, rfl, by simp, fun hp => ⟨g, 0, rfl, (Array.getElem?_eq_some_iff.1 hh).1, fun j hj => ?_⟩⟩
    have := World.ownsRow.cells h (g := g) rfl j (.int .i64 (gi (zs L) j)) (by rw [List.getElem?_map, List.getElem?_eq_getElem hj, gi_eq (by simpa using hj)]; simp)
    rw [Nat.zero_add]
    rwa [Addr.add_lit, Nat.zero_add] at this
/-- The rows of places that may follow. -/
def nxL (n : Nat) (t : Pt) : List (List Int) := (List.range n).map fun i => zs (nxN n t i)
theorem ro_nxL {n i : Nat} {t : Pt} (h : i < n) : ro (nxL n t) i = zs (nxN n t i) := by
  unfold ro nxL
  rw [List.getElem?_map, List.getElem?_range h]; rfl
theorem rows_of_rb {w : World} {D g n : Nat} {KC : List Value} {t : Pt} (h : RB w D g n KC (nxN n t)) : Rws w w.heap.size (some ⟨g, 0, none⟩) n (nxL n t) := by
  refine ⟨by simp [nxL], fun hp => ⟨g, 0, rfl, h.blk.lt, fun j hj => ?_⟩⟩
  obtain ⟨u, hu⟩ : ∃ u, KC[j]? = some u := ⟨_, List.getElem?_eq_getElem (by rw [h.len]; exact hj)⟩
  obtain ⟨A, c, rfl, hI⟩ := ints_of_own (h.own j u hu)
  refine ⟨A, _, c, by rw [Nat.zero_add, h.blk.cell]; exact hu, ?_⟩
  rw [ro_nxL hj]
  exact hI
/-- nfa.Of, read. -/
theorem ofR_any (s : List UInt8) (w : World) (h9 : s.length ≤ 9223372036854775807) :
    Calls Tryz.prog 28 #[S s] w fun e w' => ((parsE s ≠ 0 ∧ e = .returned (.tuple #[.slice none 0 0, .slice none 0 0, .slice none 0 0, errV (parsE s)])) ∨
      ∃ (t : Pt) (A1 A2 A3 : Option Addr) (c1 c2 c3 : Nat), parsE s = 0 ∧ s.length ≤ 12 ∧ par s = some t ∧
        e = .returned (.tuple #[.slice A1 (srt (leaves t).length (fsP t)).length c1, .slice A2 (srt (leaves t).length (lsP t)).length c2, .slice A3 (leaves t).length c3, .nilIface]) ∧
        Ints w' w'.heap.size A1 (srt (leaves t).length (fsP t)).length (zs (srt (leaves t).length (fsP t))) ∧ Ints w' w'.heap.size A2 (srt (leaves t).length (lsP t)).length (zs (srt (leaves t).length (lsP t))) ∧ Rws w' w'.heap.size A3 (leaves t).length (nxL (leaves t).length t)) ∧ Below w.heap.size w w' := by
  refine (nfaOf_any s w h9).mono ?_
  rintro e w' ⟨h | ⟨t, v1, v2, g, KC, h0, h12, ht, rfl, ho⟩, hb⟩
  · exact ⟨.inl h, hb⟩
  · obtain ⟨A1, c1, rfl, i1⟩ := ints_of_own ho.first
    obtain ⟨A2, c2, rfl, i2⟩ := ints_of_own ho.last
    exact ⟨.inr ⟨t, A1, A2, _, c1, c2, _, h0, h12, ht, rfl, i1, i2, rows_of_rb ho.next⟩, hb⟩
def tF : Pt := .str (.seq (.sgn 97 0) (.sgn 98 1))
theorem parF : par [40, 97, 98, 41, 42] = some tF := by rfl
def tG : Pt := .alt (.sgn 97 0) (.seq (.sgn 98 1) (.sgn 99 2))
theorem parG : par [97, 124, 98, 99] = some tG := by rfl
theorem matchG : matchV [97, 124, 98, 99] [98, 99] = true ∧ matchE [97, 124, 98, 99] [98, 99] = 0 := by
  have e : parsE [97, 124, 98, 99] = 0 := parsE_of (by decide) parG
  have h2 : matchE [97, 124, 98, 99] [98, 99] = 0 := by unfold matchE; rw [e]; rfl
  refine ⟨?_, h2⟩
  unfold matchV
  rw [h2, parG]
  decide +kernel
theorem int1 (w : World) (g : Nat) (x : Int) (h : w.heap[g]? = some (.cells #[.int .i64 x] 3)) : Ints w w.heap.size (some ⟨g, 0, none⟩) 1 [x] :=
  ⟨rfl, fun _ => ⟨g, 0, rfl, (Array.getElem?_eq_some_iff.1 h).1, fun j hj => by
    obtain rfl : j = 0 := by omega
    rw [cell_of_row w g _ _ _ (0, 0) h]; rfl⟩⟩
theorem rows2 (w : World) (g g1 g2 : Nat) (x y : Int) (h : w.heap[g]? = some (.cells #[.slice (some ⟨g1, 0, none⟩) 1 1, .slice (some ⟨g2, 0, none⟩) 1 1] 44)) (h1 : w.heap[g1]? = some (.cells #[.int .i64 x] 3)) (h2 : w.heap[g2]? = some (.cells #[.int .i64 y] 3)) :
    Rws w w.heap.size (some ⟨g, 0, none⟩) 2 [[x], [y]] := by
  refine ⟨rfl, fun _ => ⟨g, 0, rfl, (Array.getElem?_eq_some_iff.1 h).1, fun j hj => ?_⟩⟩
  rcases (by omega : j = 0 ∨ j = 1) with rfl | rfl
  · exact ⟨_, _, _, by rw [cell_of_row w g _ _ _ (0, 0) h]; rfl, int1 w g1 x h1⟩
  · exact ⟨_, _, _, by rw [cell_of_row w g _ _ _ (0, 0) h]; rfl, int1 w g2 y h2⟩
end Go.Proofs.YtchhbnnpannnhaaGreatDoor

namespace Go.Proofs.YtchhbnnpannnhaaGreatDoor
open Go.RowKit IntWalk

/-- append(s, u) where s is the call's own: one cell more; all blocks but s' own stay. -/
theorem wpList_append1g {P : Program} {w : World} {ops : Array Oper} {rest : List Oper} {o : Oper} {a : Act} {Q : Exit → Act → World → Prop} (hgd : o.guard = none) (s x : Operand) (t : TypeId)
    (ho : o.op = .call { callee := .builtin .append, args := #[s, x], argTypes := #[t, t] }) (e : TypeId) (i : TypeInfo) (z : Value) (ht : P.underlying t = some (.slice e)) (hi : P.info? e = some i) (hz : i.zero = some z)
    (hsize : i.size = 1) (hby : i.bytes ≤ 64) (hzs : z.cells.size = 1) (base : Nat) (v : Value) (l : List Value) (u : Value) (hu : u.oneCell' = true) (hs : a.eval s = v)
    (hx : a.eval x = .slice (some ⟨w.heap.size, 0, none⟩) 1 1) (hown : w.ownsRow base e 1 v l.length l) (hlen : l.length ≤ 1000000) (hbase : base ≤ w.heap.size)
    (h : ∀ v' w', w'.ownsRow base e 1 v' (l ++ [u]).length (l ++ [u]) → w.grownBy w' v.ownBlock → (v'.ownBlock = v.ownBlock ∨ ∃ g, v'.ownBlock = some g ∧ w.heap.size ≤ g) → wpList P ops Q rest (a.put o.dst v') w') :
    wpList P ops Q (o :: rest) a (w.alloc (.cells #[u] e)) := by
  refine wpList_append_own_at (P := P) (w.alloc (.cells #[u] e)) hgd s x t ho base e i z 1 i.bytes ht hi hz hsize rfl hzs (by omega) v l.length l hs (hown.alloc _) ⟨w.heap.size, 0, none⟩ 1 1 [u] hx rfl ?_ ?_ ?_ ?_ ?_ ?_
  · intro j u' hj
    match j, hj with
    | 0, hj =>
      have : u = u' := by simpa using hj
      subst this
      simp [Addr.add, World.cell?_alloc_new]
  · intro u' hu'; simp at hu'; subst hu'; exact hu
  · simp only [maxLen]; omega
  · have h1 : (l.length + 1) * i.bytes ≤ 1000001 * 64 := Nat.mul_le_mul (by omega) hby
    omega
  · simp; omega
  · intro v' w' h1 h2 _ h4
    refine h v' w' (by simpa using h1) ((World.grownBy_alloc w _ _).trans h2) ?_
    rcases h4 with h4 | h4
    · exact .inl h4
    · exact .inr ⟨_, h4, by simp⟩

/-- The same, at the operation within a region. -/
theorem wp_append1g {P : Program} {w : World} {o : Oper} {a : Act} {K : Act → World → Prop} {Q : Exit → Act → World → Prop} (s x : Operand) (t : TypeId)
    (ho : o.op = .call { callee := .builtin .append, args := #[s, x], argTypes := #[t, t] }) (e : TypeId) (i : TypeInfo) (z : Value) (ht : P.underlying t = some (.slice e)) (hi : P.info? e = some i) (hz : i.zero = some z)
    (hsize : i.size = 1) (hby : i.bytes ≤ 64) (hzs : z.cells.size = 1) (base : Nat) (v : Value) (l : List Value) (u : Value) (hu : u.oneCell' = true) (hs : a.eval s = v)
    (hx : a.eval x = .slice (some ⟨w.heap.size, 0, none⟩) 1 1) (hown : w.ownsRow base e 1 v l.length l) (hlen : l.length ≤ 1000000) (hbase : base ≤ w.heap.size)
    (h : ∀ v' w', w'.ownsRow base e 1 v' (l ++ [u]).length (l ++ [u]) → w.grownBy w' v.ownBlock → (v'.ownBlock = v.ownBlock ∨ ∃ g, v'.ownBlock = some g ∧ w.heap.size ≤ g) → K (a.put o.dst v') w') :
    o.wp P a (w.alloc (.cells #[u] e)) K Q := by
  have hb : (l.length + 1) * i.bytes ≤ 140737488355328 := by
    have h1 : (l.length + 1) * i.bytes ≤ 1000001 * 64 := Nat.mul_le_mul (by omega) hby
    omega
  obtain ⟨v', w', hr, h2, h3, _, h5⟩ := run_append_own_at (P := P) (w.alloc (.cells #[u] e)) base t o.type e i z 1 i.bytes ht hi hz hsize rfl hzs (by omega) v l.length l (hown.alloc _) ⟨w.heap.size, 0, none⟩ 1 1 [u] rfl (cell_one_new w u e) (by intro u' hu'; simp at hu'; subst hu'; exact hu) (by simp only [maxLen]; omega) hb (by simp; omega)
  unfold Oper.wp execOp
  simp only [ho, resolve, invoke, builtin, Sem.run_bind, Sem.run_pure, Result.andThen_ok, List.map_toArray, List.map_cons, List.map_nil, hs, hx, hr]
  refine h v' w' (by simpa using h2) ((World.grownBy_alloc w _ _).trans h3) ?_
  rcases h5 with h4 | h4
  · exact .inl h4
  · exact .inr ⟨_, h4, by simp⟩

/-- A queue of numbers: a slice that may begin within its block. -/
def OwnQ (w : World) (base : Nat) (e : TypeId) (v : Value) (xs : List Int) : Prop :=
  ∃ g off cap cur, v = .slice (some ⟨g, off, none⟩) xs.length cap ∧ base ≤ g ∧ w.heap[g]? = some (.cells cur e (0, 0)) ∧ xs.length ≤ cap ∧ off + cap ≤ cur.size ∧ ∀ j, j < xs.length → cur[off + j]? = some (.int .i64 (gi xs j))
section
variable {w w' : World} {base : Nat} {e : TypeId} {v : Value} {xs : List Int}
theorem OwnQ.lt (h : OwnQ w base e v xs) {g : Nat} (hg : v.ownBlock = some g) : base ≤ g ∧ g < w.heap.size := by
  obtain ⟨g', off, cap, cur, rfl, h1, h2, _⟩ := h
  obtain rfl : g' = g := by simpa [Value.ownBlock] using hg
  exact ⟨h1, (Array.getElem?_eq_some_iff.1 h2).1⟩
theorem OwnQ.kept {row : Option Nat} (h : OwnQ w base e v xs) (hg : w.grownBy w' row) (hne : v.ownBlock ≠ row) : OwnQ w' base e v xs := by
  obtain ⟨g, off, cap, cur, rfl, h1, h2, h3⟩ := h
  exact ⟨g, off, cap, cur, rfl, h1, (hg.block g (Array.getElem?_eq_some_iff.1 h2).1 (by simpa [Value.ownBlock] using hne)).trans h2, h3⟩
theorem OwnQ.below {B : Nat} (h : OwnQ w base e v xs) (hb : Below B w w') (hB : w.heap.size ≤ B) : OwnQ w' base e v xs := by
  obtain ⟨g, off, cap, cur, rfl, h1, h2, h3⟩ := h
  have := (Array.getElem?_eq_some_iff.1 h2).1
  exact ⟨g, off, cap, cur, rfl, h1, (hb.block g (by omega)).trans h2, h3⟩
theorem OwnQ.same (h : OwnQ w base e v xs) (hs : ∀ g, v.ownBlock = some g → w'.heap[g]? = w.heap[g]?) : OwnQ w' base e v xs := by
  obtain ⟨g, off, cap, cur, rfl, h1, h2, h3⟩ := h
  exact ⟨g, off, cap, cur, rfl, h1, (hs g rfl).trans h2, h3⟩
/-- The first one. -/
theorem OwnQ.head {x : Int} (h : OwnQ w base e v (x :: xs)) : ∃ g off cap, v = .slice (some ⟨g, off, none⟩) (xs.length + 1) cap ∧ w.cell? ⟨g, off, none⟩ = some (.int .i64 x) := by
  obtain ⟨g, off, cap, cur, rfl, h1, h2, h3, h4, h5⟩ := h
  refine ⟨g, off, cap, rfl, ?_⟩
  rw [cell_of_row w g off cur e (0, 0) h2]
  exact h5 0 (by simp)
/-- What is behind the first one. -/
theorem OwnQ.tail {x : Int} {g off cap : Nat} (h : OwnQ w base e (.slice (some ⟨g, off, none⟩) (xs.length + 1) cap) (x :: xs)) : OwnQ w base e (.slice (if cap = 1 then some ⟨g, off, none⟩ else some ⟨g, off + 1, none⟩) xs.length (cap - 1)) xs := by
  obtain ⟨g', off', cap', cur, hv, h1, h2, h3, h4, h5⟩ := h
  injection hv with hv _ hc
  injection hv with hv
  injection hv with hg ho _
  subst hg ho hc
  simp only [List.length_cons] at h3 h5
  by_cases hc : cap = 1
  · rw [if_pos hc]
    refine ⟨g, off, cap - 1, cur, rfl, h1, h2, by omega, by omega, fun j hj => absurd hj (by omega)⟩
  · rw [if_neg hc]
    refine ⟨g, off + 1, cap - 1, cur, rfl, h1, h2, by omega, by omega, fun j hj => ?_⟩
    have := h5 (j + 1) (by omega)
    rw [show off + 1 + j = off + (j + 1) by omega]
    exact this
end
theorem run_append_room_off {P : Program} (w : World) (t ty e : TypeId) (i : TypeInfo) (ht : P.underlying t = some (.slice e)) (hi : P.info? e = some i) (h1s : i.size = 1)
    (g off sLen sCap : Nat) (cur : Array Value) (hg : w.heap[g]? = some (.cells cur e (0, 0)))
    (a : Addr) (c : Nat) (u : Value) (hu : w.cell? a = some u) (h1 : u.oneCell' = true) (hroom : sLen + 1 ≤ sCap) (hfit : off + sLen + 1 ≤ cur.size) :
    (Builtin.append_ #[t, t] ty #[.slice (some ⟨g, off, none⟩) sLen sCap, .slice (some a) 1 c]).run P w =
      .ok (.slice (some ⟨g, off, none⟩) (sLen + 1) sCap) (w.setRow g (cur.toList.take (off + sLen) ++ [u] ++ cur.toList.drop (off + sLen + 1)).toArray) := by
  have hnews : ∀ j v, [u][j]? = some v → w.cell? (a.add j) = some v := by
    intro j v hj
    match j, hj with
    | 0, hj =>
      have : u = v := by simpa using hj
      subst this
      rw [show a.add 0 = a from rfl]; exact hu
  have hf := run_firstCells_some (P := P) w i.size 1 a 1 c [u] (by rw [h1s]; rfl) hnews
  have hst := run_storeCells_at P g (off + sLen) e [u] 0 cur w hg (by simpa using hfit) (by intro x hx; simp at hx; subst hx; exact h1)
  simp only [Nat.add_zero] at hst
  rw [h1s] at hf
  have hadd : (⟨g, off, none⟩ : Addr).add sLen = ⟨g, off + sLen, none⟩ := by unfold Addr.add; split <;> simp_all
  simp [Builtin.append_, run_underlying ht, sizeOf, typeInfo, hi, h1s, Builtin.lenOf, hroom, hf, hadd, hst]
/-- append to a queue. -/
theorem wpList_append_q {P : Program} {w : World} {ops : Array Oper} {rest : List Oper} {o : Oper} {a : Act} {Q : Exit → Act → World → Prop} (hgd : o.guard = none) (s x : Operand) (t : TypeId)
    (ho : o.op = .call { callee := .builtin .append, args := #[s, x], argTypes := #[t, t] }) (e : TypeId) (i : TypeInfo) (z : Value) (ht : P.underlying t = some (.slice e)) (hi : P.info? e = some i) (hz : i.zero = some z)
    (hsize : i.size = 1) (hby : i.bytes ≤ 64) (hzs : z.cells.size = 1) (base : Nat) (v : Value) (l : List Int) (u : Int) (hs : a.eval s = v)
    (hx : a.eval x = .slice (some ⟨w.heap.size, 0, none⟩) 1 1) (hown : OwnQ w base e v l) (hlen : l.length ≤ 1000000) (hbase : base ≤ w.heap.size)
    (h : ∀ v' w', OwnQ w' base e v' (l ++ [u]) → w.grownBy w' v.ownBlock → (v'.ownBlock = v.ownBlock ∨ ∃ g, v'.ownBlock = some g ∧ w.heap.size ≤ g) → wpList P ops Q rest (a.put o.dst v') w') :
    wpList P ops Q (o :: rest) a (w.alloc (.cells #[.int .i64 u] e)) := by
  obtain ⟨g, off, cap, cur, rfl, h1, h2, h3, h4, h5⟩ := hown
  have hlt : g < w.heap.size := (Array.getElem?_eq_some_iff.1 h2).1
  have h2' : (w.alloc (.cells #[.int .i64 u] e)).heap[g]? = some (.cells cur e (0, 0)) := ((World.grownBy_alloc w _ none).block g hlt (by simp)).trans h2
  have hc : (w.alloc (.cells #[.int .i64 u] e)).cell? ⟨w.heap.size, 0, none⟩ = some (.int .i64 u) := cell_of_row _ _ 0 _ e (0, 0) (heap_alloc_new w _)
  have hgi : ∀ j, j < l.length + 1 → gi (l ++ [u]) j = if j < l.length then gi l j else u := by
    intro j hj
    unfold gi
    by_cases hl : j < l.length
    · rw [if_pos hl, List.getElem?_append_left hl]
    · rw [if_neg hl, List.getElem?_append_right (by omega), show j - l.length = 0 by omega]; rfl
  refine wpList_plain hgd fun K hK => ?_
  by_cases hroom : l.length + 1 ≤ cap
  · have hr := run_append_room_off (P := P) (w.alloc (.cells #[.int .i64 u] e)) t o.type e i ht hi hsize g off l.length cap cur h2' ⟨w.heap.size, 0, none⟩ 1 (.int .i64 u) hc rfl hroom (by omega)
    unfold Oper.wp execOp
    simp only [ho, resolve, invoke, builtin, Sem.run_bind, Sem.run_pure, Result.andThen_ok, List.map_toArray, List.map_cons, List.map_nil, hs, hx, hr]
    refine hK _ _ (h _ _ ⟨g, off, cap, _, by rw [List.length_append, List.length_singleton], h1, setRow_heap _ g cur _ e _ h2', by rw [List.length_append, List.length_singleton]; exact hroom, ?_, fun j hj => ?_⟩ ?_ (.inl rfl))
    · simp only [List.size_toArray, List.length_append, List.length_take, List.length_drop, Array.length_toList, List.length_singleton]; omega
    · rw [List.length_append, List.length_singleton] at hj
      rw [hgi j hj, List.getElem?_toArray]
      have ht : (cur.toList.take (off + l.length)).length = off + l.length := by rw [List.length_take]; have : cur.toList.length = cur.size := Array.length_toList; omega
      by_cases hl : j < l.length
      · rw [if_pos hl, List.append_assoc, List.getElem?_append_left (show off + j < (cur.toList.take (off + l.length)).length by rw [ht]; omega), List.getElem?_take_of_lt (show off + j < off + l.length by omega), Array.getElem?_toList]
        exact h5 j hl
      · rw [if_neg hl, List.append_assoc, List.getElem?_append_right (by rw [ht]; omega), ht, show off + j - (off + l.length) = 0 by omega]
        rfl
    · exact (World.grownBy_alloc w _ _).trans ⟨rfl, rfl, rfl, by simp [World.setRow], fun k _ hk => setRow_other _ g k _ (fun e => hk (by simp [Value.ownBlock, e]))⟩
  · have holds : ∀ j y, (l.map (Value.int .i64))[j]? = some y → (w.alloc (.cells #[.int .i64 u] e)).cell? ((⟨g, off, none⟩ : Addr).add j) = some y := by
      intro j y hy
      rw [List.getElem?_map] at hy
      have hadd : (⟨g, off, none⟩ : Addr).add j = ⟨g, off + j, none⟩ := by unfold Addr.add; split <;> simp_all
      rw [hadd, cell_of_row _ g (off + j) cur e (0, 0) h2']
      by_cases hl : j < l.length
      · rw [h5 j hl, ← hy, List.getElem?_eq_getElem hl, gi_eq hl]; rfl
      · rw [List.getElem?_eq_none (by omega)] at hy; cases hy
    have hnews : ∀ j y, [Value.int .i64 u][j]? = some y → (w.alloc (.cells #[.int .i64 u] e)).cell? ((⟨w.heap.size, 0, none⟩ : Addr).add j) = some y := cell_one_new w _ e
    have hbb : (l.length + 1) * i.bytes ≤ 140737488355328 := by
      have h1 : (l.length + 1) * i.bytes ≤ 1000001 * 64 := Nat.mul_le_mul (by omega) hby
      omega
    have hr := run_append_grow (P := P) (w.alloc (.cells #[.int .i64 u] e)) t o.type e i z ht hi hz ⟨g, off, none⟩ l.length cap (l.map (Value.int .i64)) (by rw [hsize, List.length_map, Nat.mul_one]) holds ⟨w.heap.size, 0, none⟩ 1 1 [.int .i64 u] (by rw [hsize]; rfl) hnews (by omega) (by omega) (growslice_fits (by omega) hbb)
    unfold Oper.wp execOp
    simp only [ho, resolve, invoke, builtin, Sem.run_bind, Sem.run_pure, Result.andThen_ok, List.map_toArray, List.map_cons, List.map_nil, hs, hx, hr]
    have hge := grownCap_ge (w.alloc (.cells #[.int .i64 u] e)) (l.length + 1) cap e
    refine hK _ _ (h _ _ ⟨(w.alloc (.cells #[.int .i64 u] e)).heap.size, 0, _, _, by rw [List.length_append, List.length_singleton], by rw [World.size_alloc]; omega, heap_alloc_new (w.alloc (.cells #[.int .i64 u] e)).drew _, by rw [List.length_append, List.length_singleton]; exact hge, ?_, fun j hj => ?_⟩ ?_ (.inr ⟨_, rfl, by simp⟩))
    · simp only [Array.size_append, List.size_toArray, List.length_map, List.length_cons, List.length_nil, size_zeroCells, hzs]; omega
    · rw [List.length_append, List.length_singleton] at hj
      rw [hgi j hj, Nat.zero_add]
      by_cases hl : j < l.length
      · rw [if_pos hl, Array.append_assoc, Array.getElem?_append_left (by simpa using hl)]
        simp [List.getElem?_map, List.getElem?_eq_getElem hl, gi_eq hl]
      · rw [if_neg hl, Array.append_assoc, Array.getElem?_append_right (by simp; omega), Array.getElem?_append_left (by simp; omega)]
        simp [show j - l.length = 0 by omega]
    · exact (World.grownBy_alloc w _ _).trans ⟨rfl, rfl, rfl, by simp, fun k hk _ => (World.grownBy_alloc (w.alloc (.cells #[.int .i64 u] e)).drew _ none).block k hk (by simp)⟩
end Go.Proofs.YtchhbnnpannnhaaGreatDoor

namespace Go.Proofs.YtchhbnnpannnhaaGreatDoor
open Go.RowKit Go.Maps
set_option linter.unusedVariables false

theorem run_append_zero {P : Program} {w : World} (base : Nat) (t ty e : TypeId) (i : TypeInfo) (size : Nat) (ht : P.underlying t = some (.slice e)) (hi : P.info? e = some i)
    (v : Value) (n : Nat) (xs : List Value) (hown : w.ownsRow base e size v n xs) (A : Option Addr) (c : Nat) :
    (Builtin.append_ #[t, t] ty #[v, .slice A 0 c]).run P w = .ok v w := by
  rcases hown.2 with ⟨rfl, rfl⟩ | ⟨g, cap, cur, rfl, _, _, hnc, _⟩
  · cases A <;> simp [Builtin.append_, run_underlying ht, sizeOf, typeInfo, hi, Builtin.lenOf, Builtin.firstCells, loadCells, loadCellsFrom]
  · cases A <;> simp [Builtin.append_, run_underlying ht, sizeOf, typeInfo, hi, Builtin.lenOf, Builtin.firstCells, hnc, storeCells, loadCells, loadCellsFrom]
/-- A slice reads as cells. -/
def Cs (w : World) (A : Option Addr) (m : Nat) (X : List Value) : Prop := X.length = m ∧ (0 < m → ∃ b off, A = some ⟨b, off, none⟩ ∧ ∀ j u, X[j]? = some u → w.cell? ⟨b, off + j, none⟩ = some u)
theorem Ints.cs {w : World} {B n : Nat} {A : Option Addr} {l : List Int} (h : Ints w B A n l) : Cs w A n (l.map (Value.int .i64)) := by
  refine ⟨by simpa using h.1, fun hn => ?_⟩
  obtain ⟨b, off, e, _, hc⟩ := h.2 hn
  refine ⟨b, off, e, fun j u hj => ?_⟩
  have hjl : j < l.length := by
    rcases Nat.lt_or_ge j l.length with hl | hl
    · exact hl
    · rw [List.getElem?_eq_none (by simpa using hl)] at hj; cases hj
  rw [hc j (by have := h.1; omega), ← hj, List.getElem?_map, List.getElem?_eq_getElem hjl, gi_eq hjl]; rfl
theorem own_cs {w : World} {base n : Nat} {e : TypeId} {v : Value} {X : List Value} (h : w.ownsRow base e 1 v n X) : ∃ A c, v = .slice A n c ∧ Cs w A n X := by
  rcases h.2 with ⟨rfl, rfl⟩ | ⟨g, cap, cur, rfl, hg, hh, h1, h2, h3, h4⟩
  · exact ⟨none, 0, rfl, by simpa using h.1, fun hn => absurd hn (by omega)⟩
  · refine ⟨some ⟨g, 0, none⟩, cap, rfl, by have := h.1; omega, fun _ => ⟨g, 0, rfl, fun j u hj => ?_⟩⟩
    have := World.ownsRow.cells h (g := g) rfl j u hj
    rw [Nat.zero_add]
    rwa [Addr.add_lit, Nat.zero_add] at this
theorem wpList_append_cells {P : Program} {w : World} {ops : Array Oper} {rest : List Oper} {o : Oper} {a : Act} {Q : Exit → Act → World → Prop} (hgd : o.guard = none) (s x : Operand) (t : TypeId)
    (ho : o.op = .call { callee := .builtin .append, args := #[s, x], argTypes := #[t, t] }) (e : TypeId) (i : TypeInfo) (z : Value) (ht : P.underlying t = some (.slice e)) (hi : P.info? e = some i) (hz : i.zero = some z)
    (hsize : i.size = 1) (hby : i.bytes ≤ 64) (hzs : z.cells.size = 1)
    (base : Nat) (v : Value) (T X : List Value) (hs : a.eval s = v) (hown : w.ownsRow base e 1 v T.length T) (A : Option Addr) (m c : Nat) (hx : a.eval x = .slice A m c) (hX : Cs w A m X) (h1 : ∀ u ∈ X, u.oneCell' = true)
    (hb : T.length + X.length ≤ 1000000) (hbase : base ≤ w.heap.size)
    (h : ∀ v' w', w'.ownsRow base e 1 v' (T ++ X).length (T ++ X) → w.grownBy w' v.ownBlock → Below base w w' → (v'.ownBlock = v.ownBlock ∨ v'.ownBlock = some w.heap.size) → wpList P ops Q rest (a.put o.dst v') w') :
    wpList P ops Q (o :: rest) a w := by
  have hm : X.length = m := hX.1
  have hbl : ∀ w', w.grownBy w' v.ownBlock → Below base w w' := fun w' hg => (Below.refl base w).grown hg hbase (fun k hk => own_lt hown hk)
  by_cases h0 : m = 0
  · subst h0
    have hX0 : X = [] := List.eq_nil_of_length_eq_zero hm
    subst hX0
    refine wpList_plain hgd fun K hK => ?_
    have hr := run_append_zero (P := P) (w := w) base t o.type e i 1 ht hi v T.length _ hown A c
    unfold Oper.wp execOp
    simp only [ho, resolve, invoke, builtin, Sem.run_bind, Sem.run_pure, Result.andThen_ok, List.map_toArray, List.map_cons, List.map_nil, hs, hx, hr]
    exact hK _ _ (h v w (by simpa using hown) ⟨rfl, rfl, rfl, Nat.le_refl _, fun _ _ _ => rfl⟩ (Below.refl _ _) (.inl rfl))
  · obtain ⟨b, off, rfl, hc⟩ := hX.2 (by omega)
    refine wpList_append_own_at (P := P) w hgd s x t ho base e i z 1 i.bytes ht hi hz hsize rfl hzs (by omega) v T.length T hs hown ⟨b, off, none⟩ m c X hx (by simp [hm]) ?_ h1 ?_ ?_ hbase ?_
    · intro j u hj
      rw [Addr.add_lit]
      exact hc j u hj
    · simp only [maxLen]; omega
    · have h2 : (T.length + m) * i.bytes ≤ 1000000 * 64 := Nat.mul_le_mul (by omega) hby
      omega
    · intro v' w' h1 h2 _ h4
      refine h v' w' ?_ h2 (hbl w' h2) h4
      rw [List.length_append, hm]; exact h1
theorem wpList_append_row {w : World} {ops : Array Oper} {rest : List Oper} {o : Oper} {a : Act} {Q : Exit → Act → World → Prop} (hgd : o.guard = none) (s x : Operand)
    (ho : o.op = .call { callee := .builtin .append, args := #[s, x], argTypes := #[44, 44] })
    (base : Nat) (v : Value) (T X : List Nat) (hs : a.eval s = v) (hown : w.ownsRow base 3 1 v T.length (T.map eI)) (A : Option Addr) (m c B : Nat) (hx : a.eval x = .slice A m c) (hX : Ints w B A m (zs X))
    (hb : T.length + X.length ≤ 1000000) (hbase : base ≤ w.heap.size)
    (h : ∀ v' w', w'.ownsRow base 3 1 v' (T ++ X).length ((T ++ X).map eI) → w.grownBy w' v.ownBlock → Below base w w' → wpList Tryz.prog ops Q rest (a.put o.dst v') w') :
    wpList Tryz.prog ops Q (o :: rest) a w := by
  obtain ⟨i0, hi, hz0, hz1, hz2⟩ := info_parts info_intN
  have e1 : (zs X).map (Value.int .i64) = X.map eI := by simp [zs]
  have hc := hX.cs
  rw [e1] at hc
  refine wpList_append_cells hgd s x 44 ho 3 i0 _ Tryz.underlying44 hi hz0 hz1 (by omega) rfl base v (T.map eI) (X.map eI) hs (by simpa using hown) A m c hx hc ?_ (by simpa using hb) hbase ?_
  · intro u hu
    obtain ⟨y, _, rfl⟩ := List.mem_map.1 hu
    rfl
  · intro v' w' h1 h2 h3 _
    refine h v' w' ?_ h2 h3
    rw [← List.map_append] at h1
    simpa using h1
end Go.Proofs.YtchhbnnpannnhaaGreatDoor

namespace Go.Proofs.YtchhbnnpannnhaaGreatDoor
set_option linter.unusedVariables false

theorem mt_ex : ∀ t : Rt, ∃ v, mt t v = true
  | .emp => ⟨[], rfl⟩
  | .sgn c => ⟨[c], by simp [mt]⟩
  | .alt l r => by
    obtain ⟨v, h⟩ := mt_ex l
    exact ⟨v, by simp [mt, h]⟩
  | .seq l r => by
    obtain ⟨u, h⟩ := mt_ex l
    obtain ⟨v, h2⟩ := mt_ex r
    exact ⟨u ++ v, (mt_seq_iff _ _ _).2 ⟨u, v, rfl, h, h2⟩⟩
  | .str l => ⟨[], rfl⟩
theorem aft_ex : ∀ (t : Rt) (a i : Nat), a ≤ i → i < a + nR t → ∃ s, Aft t a i s
  | .emp, a, i, h, h2 => by simp [nR, lvR] at h2; omega
  | .sgn c, a, i, h, h2 => ⟨[], by simp [nR, lvR] at h2; omega, rfl⟩
  | .alt l r, a, i, h, h2 => by
    rw [nR_alt] at h2
    by_cases hi : i < a + nR l
    · obtain ⟨s, hs⟩ := aft_ex l a i h hi
      exact ⟨s, .inl hs⟩
    · obtain ⟨s, hs⟩ := aft_ex r (a + nR l) i (by omega) (by omega)
      exact ⟨s, .inr hs⟩
  | .seq l r, a, i, h, h2 => by
    rw [nR_seq] at h2
    by_cases hi : i < a + nR l
    · obtain ⟨s, hs⟩ := aft_ex l a i h hi
      obtain ⟨v, hv⟩ := mt_ex r
      exact ⟨s ++ v, .inl ⟨s, v, rfl, hs, hv⟩⟩
    · obtain ⟨s, hs⟩ := aft_ex r (a + nR l) i (by omega) (by omega)
      exact ⟨s, .inr hs⟩
  | .str l, a, i, h, h2 => by
    obtain ⟨s, hs⟩ := aft_ex l a i h h2
    exact ⟨s ++ [], s, [], rfl, hs, rfl⟩
theorem labAt (rt : Rt) : LabAt (fun i => (lvR rt)[i]?) rt 0 := fun i hi => by simp
theorem co_acc {s : List UInt8} {t : Pt} (h : par s = some t) {i : Nat} (hi : i < (leaves t).length) : i ∈ lsP t ∨ ∃ j, (i, j) ∈ prP t := by
  obtain ⟨rt, _, hr⟩ := rd_some h
  obtain ⟨q1, q2⟩ := par_leaves h
  obtain ⟨_, a2, a3⟩ := sets_rel hr q2
  obtain ⟨v, hv⟩ := aft_ex rt 0 i (by omega) (by rw [Nat.zero_add]; unfold nR; rw [lv_rel hr]; exact hi)
  cases v with
  | nil => exact .inl ((a2 i).2 ((last_law _ _ _).1 hv))
  | cons c v =>
    obtain ⟨j, hj, _⟩ := (next_law _ rt 0 (labAt rt) i c v).1 hv
    exact .inr ⟨j, (a3 i j).2 hj⟩
/-- What fits is what there is a way for: of the program's own sets. -/
theorem simP_mt {s u : List UInt8} {t : Pt} {rt : Rt} (h : par s = some t) (hr : Rel rt t) (hu : u ≠ []) : simP t u = mt rt u := by
  obtain ⟨q1, q2⟩ := par_leaves h
  obtain ⟨a1, a2, a3⟩ := sets_rel hr q2
  rw [Bool.eq_iff_iff]
  unfold simP
  rw [sim_go, glushkov (labAt rt) u hu, lv_rel hr]
  have e1 : (fun i j => decide ((i, j) ∈ prP t) = true) = fun i j => (i, j) ∈ prR rt 0 := by
    funext i j; exact propext (by rw [decide_eq_true_eq, a3])
  have e2 : (fun i => decide (i ∈ lsP t) = true) = fun i => i ∈ lsR rt 0 := by
    funext i; exact propext (by rw [decide_eq_true_eq, a2])
  rw [e1, e2]
  constructor
  · rintro ⟨i, hi, h⟩; exact ⟨i, (a1 i).1 (of_decide_eq_true hi), h⟩
  · rintro ⟨i, hi, h⟩; exact ⟨i, decide_eq_true ((a1 i).2 hi), h⟩
theorem sim_one (t : Pt) (c : UInt8) : simP t [c] = (srt (leaves t).length (fsP t)).any fun x => decide (bu (leaves t) x = c) && decide (x ∈ lsP t) := by
  unfold simP simN srt atN
  rw [List.any_filter]
  refine any_congr' fun x hx => ?_
  have hx := List.mem_range.1 hx
  rw [List.getElem?_eq_getElem hx, bu_eq hx, Bool.and_assoc]
  congr 1
end Go.Proofs.YtchhbnnpannnhaaGreatDoor

namespace Go.Proofs.YtchhbnnpannnhaaGreatDoor
set_option linter.unusedVariables false

/-- The first of those met that is the same (their number: none). -/
def idxE (E : Nat → Nat → Bool) (met : List Nat) (t : Nat) : Nat := met.findIdx fun m => E m t
/-- The first c signs of a state looked at: those met, and the row. -/
def rowG (M : Mc) (E : Nat → Nat → Bool) (i : Nat) (met : List Nat) : Nat → List Nat × List Int
  | 0 => (met, [])
  | c + 1 => (if idxE E (rowG M E i met c).1 (M.st i c) = (rowG M E i met c).1.length then (rowG M E i met c).1 ++ [M.st i c] else (rowG M E i met c).1, (rowG M E i met c).2 ++ [(idxE E (rowG M E i met c).1 (M.st i c) : Int)])
structure Bf where
  met : List Nat
  rows : List (List Int)
  tks : List Bool
/-- Behind so many rounds. -/
def bfs (M : Mc) (E : Nat → Nat → Bool) : Nat → Bf
  | 0 => ⟨[0], [], []⟩
  | a + 1 => if a < (bfs M E a).met.length then ⟨(rowG M E ((bfs M E a).met.getD a 0) (bfs M E a).met M.s).1, (bfs M E a).rows ++ [(rowG M E ((bfs M E a).met.getD a 0) (bfs M E a).met M.s).2], (bfs M E a).tks ++ [bo M.tk ((bfs M E a).met.getD a 0)]⟩ else bfs M E a
open Classical in
/-- Does nothing tell two states apart? -/
noncomputable def Mc.eqB (M : Mc) (i k : Nat) : Bool := decide (M.Eqv i k)
theorem Mc.eqB_iff {M : Mc} {i k : Nat} : M.eqB i k = true ↔ M.Eqv i k := by unfold Mc.eqB; simp
/-- The least machine. -/
noncomputable def Mc.least (M : Mc) : Mc := ⟨M.sg, (bfs M M.eqB M.n).rows, (bfs M M.eqB M.n).tks⟩

/-- Those met are states, and no two of them are the same. -/
structure MetOk (M : Mc) (met : List Nat) : Prop where
  lt : ∀ x ∈ met, x < M.n
  ne : met.Pairwise fun x y => ¬ M.Eqv x y
  fst : met.head? = some 0
theorem MetOk.pos {M : Mc} {met : List Nat} (h : MetOk M met) : 0 < met.length := by
  have := h.fst
  cases met with
  | nil => simp at this
  | cons => simp
theorem MetOk.zero {M : Mc} {met : List Nat} (h : MetOk M met) : met.getD 0 0 = 0 := by
  have := h.fst
  cases met with
  | nil => rfl
  | cons a l => simpa using this
theorem MetOk.at_lt {M : Mc} {met : List Nat} (hM : M.Ok) (h : MetOk M met) (j : Nat) : met.getD j 0 < M.n := by
  rw [List.getD_eq_getElem?_getD]
  rcases Nat.lt_or_ge j met.length with hl | hl
  · rw [List.getElem?_eq_getElem hl]; exact h.lt _ (List.getElem_mem hl)
  · rw [List.getElem?_eq_none hl]; exact hM.pos
theorem nodup_le : ∀ {n : Nat} {l : List Nat}, l.Nodup → (∀ x ∈ l, x < n) → l.length ≤ n
  | 0, l, _, hl => by
    cases l with
    | nil => simp
    | cons a l => exact absurd (hl a (List.mem_cons_self ..)) (by omega)
  | n + 1, l, hd, hl => by
    have h1 : (l.erase n).Nodup := hd.erase n
    have h2 : ∀ x ∈ l.erase n, x < n := fun x hx => by
      have := hl x (List.mem_of_mem_erase hx)
      have hne : x ≠ n := fun e => (hd.not_mem_erase (a := n)) (e ▸ hx)
      omega
    have h3 := nodup_le h1 h2
    by_cases hm : n ∈ l
    · rw [List.length_erase_of_mem hm] at h3; omega
    · rw [List.erase_of_not_mem hm] at h3; omega
theorem MetOk.nodup {M : Mc} {met : List Nat} (h : MetOk M met) : met.Nodup := h.ne.imp fun {a b} hn (e : a = b) => hn (by rw [e]; exact Mc.Eqv.refl M b)
theorem MetOk.len {M : Mc} {met : List Nat} (h : MetOk M met) : met.length ≤ M.n := nodup_le h.nodup h.lt
theorem MetOk.eq {M : Mc} {met : List Nat} (h : MetOk M met) {j k : Nat} (hj : j < met.length) (hk : k < met.length) (he : M.Eqv (met.getD j 0) (met.getD k 0)) : j = k := by
  rw [List.getD_eq_getElem?_getD, List.getElem?_eq_getElem hj, List.getD_eq_getElem?_getD, List.getElem?_eq_getElem hk] at he
  simp only [Option.getD_some] at he
  have hp := List.pairwise_iff_getElem.1 h.ne
  rcases Nat.lt_trichotomy j k with hl | hl | hl
  · exact absurd he (hp j k hj hk hl)
  · exact hl
  · exact absurd he.symm (hp k j hk hj hl)
theorem idxE_le (E : Nat → Nat → Bool) (met : List Nat) (t : Nat) : idxE E met t ≤ met.length := List.findIdx_le_length
theorem idxE_lt {E : Nat → Nat → Bool} {met : List Nat} {t : Nat} (h : idxE E met t < met.length) : E (met.getD (idxE E met t) 0) t = true := by
  have := List.findIdx_getElem (w := h)
  rw [List.getD_eq_getElem?_getD, List.getElem?_eq_getElem h]
  exact this
theorem idxE_all {E : Nat → Nat → Bool} {met : List Nat} {t : Nat} (h : idxE E met t = met.length) : ∀ m ∈ met, E m t = false := by
  intro m hm
  have := List.findIdx_eq_length.1 h m hm
  simpa using this
theorem MetOk.idx {M : Mc} {met : List Nat} (h : MetOk M met) {j t : Nat} (hj : j < met.length) (he : M.Eqv (met.getD j 0) t) : idxE M.eqB met t = j := by
  rcases Nat.lt_or_ge (idxE M.eqB met t) met.length with hl | hl
  · exact h.eq hl hj ((Mc.eqB_iff.1 (idxE_lt hl)).trans he.symm)
  · have h2 := idxE_all (Nat.le_antisymm (idxE_le _ _ _) hl) (met.getD j 0) (by rw [List.getD_eq_getElem?_getD, List.getElem?_eq_getElem hj]; exact List.getElem_mem hj)
    rw [Mc.eqB_iff.2 he] at h2; cases h2
theorem MetOk.add {M : Mc} {met : List Nat} (h : MetOk M met) {t : Nat} (ht : t < M.n) (hn : idxE M.eqB met t = met.length) : MetOk M (met ++ [t]) := by
  refine ⟨fun x hx => ?_, ?_, ?_⟩
  · rcases List.mem_append.1 hx with hx | hx
    · exact h.lt x hx
    · rw [List.mem_singleton.1 hx]; exact ht
  · rw [List.pairwise_append]
    refine ⟨h.ne, by simp, fun a ha b hb he => ?_⟩
    rw [List.mem_singleton.1 hb] at he
    have := idxE_all hn a ha
    rw [Mc.eqB_iff.2 he] at this; cases this
  · rw [List.head?_append, h.fst]; rfl
theorem getD_app {l l' : List Nat} {j : Nat} (h : j < l.length) : (l ++ l').getD j 0 = l.getD j 0 := by
  rw [List.getD_eq_getElem?_getD, List.getD_eq_getElem?_getD, List.getElem?_append_left h]
/-- The signs of a state. -/
theorem rowG_ok {M : Mc} (hM : M.Ok) {i : Nat} (hi : i < M.n) {met : List Nat} (h : MetOk M met) : ∀ c, c ≤ M.s → MetOk M (rowG M M.eqB i met c).1 ∧ (∃ l, (rowG M M.eqB i met c).1 = met ++ l) ∧ (rowG M M.eqB i met c).2.length = c ∧
    ∀ d, d < c → ∃ n : Nat, gi (rowG M M.eqB i met c).2 d = n ∧ n < (rowG M M.eqB i met c).1.length ∧ M.Eqv ((rowG M M.eqB i met c).1.getD n 0) (M.st i d)
  | 0, _ => ⟨h, ⟨[], by simp [rowG]⟩, rfl, fun d hd => absurd hd (by omega)⟩
  | c + 1, hc => by
    obtain ⟨h1, ⟨l, h2⟩, h3, h4⟩ := rowG_ok hM hi h c (by omega)
    have ht := hM.st_lt hi (c := c) (by omega)
    unfold rowG
    generalize (rowG M M.eqB i met c).1 = m at *
    generalize (rowG M M.eqB i met c).2 = r at *
    have old : ∀ d, d < c → gi (r ++ [(idxE M.eqB m (M.st i c) : Int)]) d = gi r d := fun d hd => by
      unfold gi; rw [List.getElem?_append_left (by omega)]
    have new : gi (r ++ [(idxE M.eqB m (M.st i c) : Int)]) c = (idxE M.eqB m (M.st i c) : Int) := by
      unfold gi; rw [← h3]; simp
    by_cases hn : idxE M.eqB m (M.st i c) = m.length
    · simp only [if_pos hn]
      refine ⟨h1.add ht hn, ⟨l ++ [M.st i c], by rw [h2, List.append_assoc]⟩, by simp [h3], fun d hd => ?_⟩
      rcases Nat.lt_or_ge d c with hl | hl
      · obtain ⟨n, n1, n2, n3⟩ := h4 d hl
        exact ⟨n, by rw [old d hl, n1], by simp; omega, by rw [getD_app n2]; exact n3⟩
      · obtain rfl : d = c := by omega
        refine ⟨m.length, by rw [new, hn], by simp, ?_⟩
        rw [List.getD_eq_getElem?_getD]
        simp
        exact Mc.Eqv.refl M _
    · simp only [if_neg hn]
      have hlt := Nat.lt_of_le_of_ne (idxE_le M.eqB m (M.st i c)) hn
      refine ⟨h1, ⟨l, h2⟩, by simp [h3], fun d hd => ?_⟩
      rcases Nat.lt_or_ge d c with hl | hl
      · obtain ⟨n, n1, n2, n3⟩ := h4 d hl
        exact ⟨n, by rw [old d hl, n1], n2, n3⟩
      · obtain rfl : d = c := by omega
        exact ⟨_, new, hlt, Mc.eqB_iff.1 (idxE_lt hlt)⟩
/-- What holds behind a rounds. -/
structure BfOk (M : Mc) (a : Nat) (p : Bf) : Prop where
  met : MetOk M p.met
  rl : p.rows.length = min a p.met.length
  tl : p.tks.length = min a p.met.length
  row : ∀ j, j < p.rows.length → (ro p.rows j).length = M.s ∧ ∀ c, c < M.s → ∃ n : Nat, gi (ro p.rows j) c = n ∧ n < p.met.length ∧ M.Eqv (p.met.getD n 0) (M.st (p.met.getD j 0) c)
  tak : ∀ j, j < p.tks.length → bo p.tks j = bo M.tk (p.met.getD j 0)
theorem bfs_ok {M : Mc} (hM : M.Ok) : ∀ a, BfOk M a (bfs M M.eqB a)
  | 0 => by
    unfold bfs
    exact ⟨⟨fun x hx => by rw [List.mem_singleton.1 hx]; exact hM.pos, by simp, rfl⟩, by simp, by simp, fun j hj => absurd hj (by simp), fun j hj => absurd hj (by simp)⟩
  | a + 1 => by
    have ih := bfs_ok hM a
    unfold bfs
    generalize bfs M M.eqB a = p at *
    by_cases ha : a < p.met.length
    · rw [if_pos ha]
      have hi := ih.met.at_lt hM a
      obtain ⟨h1, ⟨l, h2⟩, h3, h4⟩ := rowG_ok hM hi ih.met M.s (Nat.le_refl _)
      have hlen : (rowG M M.eqB (p.met.getD a 0) p.met M.s).1.length = p.met.length + l.length := by rw [h2, List.length_append]
      have hrl : p.rows.length = a := by rw [ih.rl]; omega
      have htl : p.tks.length = a := by rw [ih.tl]; omega
      refine ⟨h1, ?_, ?_, fun j hj => ?_, fun j hj => ?_⟩
      · simp only [List.length_append, List.length_cons, List.length_nil]; omega
      · simp only [List.length_append, List.length_cons, List.length_nil]; omega
      · simp only [List.length_append, List.length_cons, List.length_nil] at hj
        rcases Nat.lt_or_ge j a with hl | hl
        · obtain ⟨r1, r2⟩ := ih.row j (by omega)
          have e : ro (p.rows ++ [(rowG M M.eqB (p.met.getD a 0) p.met M.s).2]) j = ro p.rows j := by unfold ro; rw [List.getElem?_append_left (by omega)]
          simp only [e]
          refine ⟨r1, fun c hc => ?_⟩
          obtain ⟨n, n1, n2, n3⟩ := r2 c hc
          refine ⟨n, n1, by omega, ?_⟩
          rw [h2, getD_app n2, getD_app (show j < p.met.length by omega)]
          exact n3
        · obtain rfl : j = a := by omega
          have e : ro (p.rows ++ [(rowG M M.eqB (p.met.getD j 0) p.met M.s).2]) j = (rowG M M.eqB (p.met.getD j 0) p.met M.s).2 := by unfold ro; rw [← hrl]; simp
          simp only [e]
          refine ⟨h3, fun c hc => ?_⟩
          obtain ⟨n, n1, n2, n3⟩ := h4 c hc
          refine ⟨n, n1, n2, ?_⟩
          have e2 : (rowG M M.eqB (p.met.getD j 0) p.met M.s).1.getD j 0 = p.met.getD j 0 := by rw [h2, getD_app ha]
          rw [e2]; exact n3
      · simp only [List.length_append, List.length_cons, List.length_nil] at hj
        rcases Nat.lt_or_ge j a with hl | hl
        · have e : bo (p.tks ++ [bo M.tk (p.met.getD a 0)]) j = bo p.tks j := by unfold bo; rw [List.getElem?_append_left (by omega)]
          simp only [e]
          rw [h2, getD_app (show j < p.met.length by omega)]
          exact ih.tak j (by omega)
        · obtain rfl : j = a := by omega
          have e : bo (p.tks ++ [bo M.tk (p.met.getD j 0)]) j = bo M.tk (p.met.getD j 0) := by unfold bo; rw [← htl]; simp
          simp only [e]
          rw [h2, getD_app ha]
    · rw [if_neg ha]
      exact ⟨ih.met, by rw [ih.rl]; omega, by rw [ih.tl]; omega, ih.row, ih.tak⟩
/-- It stands still when all that was met is looked at. -/
theorem bfs_still {M : Mc} {E : Nat → Nat → Bool} {a : Nat} (h : (bfs M E a).met.length ≤ a) : ∀ d, bfs M E (a + d) = bfs M E a
  | 0 => rfl
  | d + 1 => by
    have ih := bfs_still h d
    rw [← Nat.add_assoc]
    rw [show bfs M E (a + d + 1) = if a + d < (bfs M E (a + d)).met.length then _ else bfs M E (a + d) from rfl, if_neg (by rw [ih]; omega), ih]
theorem bfs_end {M : Mc} (hM : M.Ok) {a : Nat} (h : (bfs M M.eqB a).met.length ≤ a) : bfs M M.eqB a = bfs M M.eqB M.n := by
  rcases Nat.le_total a M.n with hl | hl
  · have := bfs_still h (M.n - a)
    rw [← this]; congr 1; omega
  · have := bfs_still (bfs_ok hM M.n).met.len (a - M.n)
    rw [← this]; congr 1; omega
/-- The states met, in their order. -/
noncomputable def Mc.met (M : Mc) : List Nat := (bfs M M.eqB M.n).met
section
variable {M : Mc} (hM : M.Ok)
include hM
theorem Mc.metOk : MetOk M M.met := (bfs_ok hM M.n).met
theorem Mc.least_n : M.least.n = M.met.length := by
  have := (bfs_ok hM M.n).rl
  have h2 := (bfs_ok hM M.n).met.len
  show (bfs M M.eqB M.n).rows.length = _
  unfold Mc.met; omega
theorem Mc.least_le : M.least.n ≤ M.n := by rw [Mc.least_n hM]; exact (Mc.metOk hM).len
theorem Mc.least_tk {j : Nat} (hj : j < M.met.length) : bo M.least.tk j = bo M.tk (M.met.getD j 0) := by
  have h2 := (bfs_ok hM M.n).met.len
  refine (bfs_ok hM M.n).tak j ?_
  rw [(bfs_ok hM M.n).tl]
  have : j < (bfs M M.eqB M.n).met.length := hj
  omega
theorem Mc.least_row {j c : Nat} (hj : j < M.met.length) (hc : c < M.s) : ∃ n : Nat, gi (ro M.least.nx j) c = n ∧ n < M.met.length ∧ M.Eqv (M.met.getD n 0) (M.st (M.met.getD j 0) c) :=
  ((bfs_ok hM M.n).row j (by have h := Mc.least_n hM; unfold Mc.n Mc.least at h; simp only [] at h; omega)).2 c hc
theorem Mc.least_ok : M.least.Ok := by
  have hn := Mc.least_n hM
  have h2 := (bfs_ok hM M.n).met.len
  refine ⟨by rw [hn]; exact (Mc.metOk hM).pos, by rw [hn]; exact Nat.le_trans (Mc.metOk hM).len hM.small, hM.few, ?_, hM.rise, fun i hi => ?_, fun i c hi hc => ?_⟩
  · show (bfs M M.eqB M.n).tks.length = _
    rw [(bfs_ok hM M.n).tl, hn]; unfold Mc.met; omega
  · exact ((bfs_ok hM M.n).row i hi).1
  · obtain ⟨n, n1, n2, _⟩ := Mc.least_row hM (j := i) (c := c) (by omega) hc
    omega
theorem Mc.least_st {j c : Nat} (hj : j < M.met.length) (hc : c < M.s) : M.least.st j c < M.met.length ∧ M.Eqv (M.met.getD (M.least.st j c) 0) (M.st (M.met.getD j 0) c) := by
  obtain ⟨n, n1, n2, n3⟩ := Mc.least_row hM hj hc
  have : M.least.st j c = n := by unfold Mc.st; rw [n1]; rfl
  rw [this]; exact ⟨n2, n3⟩
theorem Mc.least_lead {w : List Nat} : ∀ {j : Nat}, j < M.met.length → M.Wd w → M.least.lead j w < M.met.length ∧ M.Eqv (M.met.getD (M.least.lead j w) 0) (M.lead (M.met.getD j 0) w) := by
  induction w with
  | nil => intro j hj _; exact ⟨hj, Mc.Eqv.refl M _⟩
  | cons c w ih =>
    intro j hj hw
    have hc := hw c (List.mem_cons_self ..)
    have hw' : M.Wd w := fun d hd => hw d (List.mem_cons_of_mem _ hd)
    obtain ⟨h1, h2⟩ := Mc.least_st hM hj hc
    obtain ⟨h3, h4⟩ := ih h1 hw'
    exact ⟨h3, h4.trans (h2.lead hw')⟩
/-- It takes what the machine takes. -/
theorem Mc.least_takes {j : Nat} (hj : j < M.met.length) {w : List Nat} (hw : M.Wd w) : bo M.least.tk (M.least.lead j w) = bo M.tk (M.lead (M.met.getD j 0) w) := by
  obtain ⟨h1, h2⟩ := Mc.least_lead hM hj hw
  rw [Mc.least_tk hM h1]; exact h2.tk
theorem Mc.least_takes0 {w : List Nat} (hw : M.Wd w) : bo M.least.tk (M.least.lead 0 w) = bo M.tk (M.lead 0 w) := by
  have := Mc.least_takes hM (Mc.metOk hM).pos hw
  rwa [(Mc.metOk hM).zero] at this
/-- No two of its states are the same. -/
theorem Mc.least_ne {j k : Nat} (hj : j < M.least.n) (hk : k < M.least.n) : M.least.Eqv j k ↔ j = k := by
  rw [Mc.least_n hM] at hj hk
  constructor
  · intro h
    refine (Mc.metOk hM).eq hj hk fun w hw => ?_
    rw [← Mc.least_takes hM hj hw, ← Mc.least_takes hM hk hw]
    exact h w hw
  · rintro rfl; exact Mc.Eqv.refl _ _
end

/-! It is its own least one. -/
theorem idx_range {E : Nat → Nat → Bool} {k n t : Nat} (hE : ∀ i j, i < n → j < n → (E i j = true ↔ i = j)) (hk : k ≤ n) (ht : t < n) : idxE E (List.range k) t = min k t := by
  unfold idxE
  rcases Nat.lt_or_ge t k with hl | hl
  · rw [Nat.min_eq_right (by omega)]
    rw [List.findIdx_eq (by rw [List.length_range]; exact hl)]
    refine ⟨by rw [List.getElem_range]; exact (hE t t (by omega) (by omega)).2 rfl, fun j hj => ?_⟩
    have : ¬ E j t = true := fun h => by have := (hE j t (by omega) (by omega)).1 h; omega
    rw [List.getElem_range]
    simpa using this
  · rw [Nat.min_eq_left hl]
    have : (List.range k).findIdx (fun m => E m t) = (List.range k).length := by
      rw [List.findIdx_eq_length]
      intro x hx
      have hx := List.mem_range.1 hx
      have : ¬ E x t = true := fun h => by have := (hE x t (by omega) (by omega)).1 h; omega
      simpa using this
    rw [this, List.length_range]
theorem rowG_self {M : Mc} (hM : M.Ok) {a : Nat} (ha : a < M.met.length) (i : Nat) (m : List Nat) (hi : i < M.n)
    (hm : MetOk M m) (hst : ∀ c, c < M.s → ∃ n : Nat, gi (ro M.least.nx a) c = n ∧ ∃ c', c' = idxE M.eqB (rowG M M.eqB i m c).1 (M.st i c) ∧ n = c') (hlast : (rowG M M.eqB i m M.s).1.length ≤ M.least.n) :
    ∀ c, c ≤ M.s → rowG M.least M.least.eqB a (List.range m.length) c = (List.range (rowG M M.eqB i m c).1.length, (rowG M M.eqB i m c).2)
  | 0, _ => rfl
  | c + 1, hc => by
    have ih := rowG_self hM ha i m hi hm hst hlast c (by omega)
    obtain ⟨n, n1, c', n2, n3⟩ := hst c (by omega)
    have hle : ∀ d, c ≤ d → d ≤ M.s → (rowG M M.eqB i m c).1.length ≤ (rowG M M.eqB i m d).1.length := by
      intro d hd hs
      induction d with
      | zero => obtain rfl : c = 0 := by omega
                exact Nat.le_refl _
      | succ d ihd =>
        rcases Nat.lt_or_ge d c with hl | hl
        · obtain rfl : c = d + 1 := by omega
          exact Nat.le_refl _
        · have := ihd hl (by omega)
          refine Nat.le_trans this ?_
          rw [show rowG M M.eqB i m (d + 1) = (if idxE M.eqB (rowG M M.eqB i m d).1 (M.st i d) = (rowG M M.eqB i m d).1.length then (rowG M M.eqB i m d).1 ++ [M.st i d] else (rowG M M.eqB i m d).1, _) from rfl]
          simp only []
          split
          · simp
          · exact Nat.le_refl _
    have hkn := Nat.le_trans (hle M.s (by omega) (Nat.le_refl _)) hlast
    have hst' : M.least.st a c = n := by unfold Mc.st; rw [n1]; rfl
    have hstn : M.least.st a c < M.least.n := by rw [Mc.least_n hM]; exact (Mc.least_st hM ha (by omega)).1
    have hix : idxE M.least.eqB (List.range (rowG M M.eqB i m c).1.length) (M.least.st a c) = idxE M.eqB (rowG M M.eqB i m c).1 (M.st i c) := by
      rw [idx_range (n := M.least.n) (fun i j hi hj => Mc.eqB_iff.trans (Mc.least_ne hM hi hj)) hkn hstn, hst', n3, n2]
      exact Nat.min_eq_right (idxE_le _ _ _)
    rw [show rowG M.least M.least.eqB a (List.range m.length) (c + 1) = (if idxE M.least.eqB (rowG M.least M.least.eqB a (List.range m.length) c).1 (M.least.st a c) = (rowG M.least M.least.eqB a (List.range m.length) c).1.length then (rowG M.least M.least.eqB a (List.range m.length) c).1 ++ [M.least.st a c] else (rowG M.least M.least.eqB a (List.range m.length) c).1, (rowG M.least M.least.eqB a (List.range m.length) c).2 ++ [(idxE M.least.eqB (rowG M.least M.least.eqB a (List.range m.length) c).1 (M.least.st a c) : Int)]) from rfl]
    rw [show rowG M M.eqB i m (c + 1) = (if idxE M.eqB (rowG M M.eqB i m c).1 (M.st i c) = (rowG M M.eqB i m c).1.length then (rowG M M.eqB i m c).1 ++ [M.st i c] else (rowG M M.eqB i m c).1, (rowG M M.eqB i m c).2 ++ [(idxE M.eqB (rowG M M.eqB i m c).1 (M.st i c) : Int)]) from rfl]
    rw [ih]
    simp only [hix, List.length_range]
    by_cases hn : idxE M.eqB (rowG M M.eqB i m c).1 (M.st i c) = (rowG M M.eqB i m c).1.length
    · rw [if_pos hn, if_pos hn, List.length_append, List.length_singleton, List.range_succ, hst', n3, n2, hn]
    · rw [if_neg hn, if_neg hn]
theorem rowG_gi {M : Mc} {E : Nat → Nat → Bool} {i : Nat} {met : List Nat} : ∀ c, (rowG M E i met c).2.length = c ∧ ∀ d, d < c → gi (rowG M E i met c).2 d = (idxE E (rowG M E i met d).1 (M.st i d) : Int)
  | 0 => ⟨rfl, fun d hd => absurd hd (by omega)⟩
  | c + 1 => by
    obtain ⟨h1, h2⟩ := rowG_gi (M := M) (E := E) (i := i) (met := met) c
    rw [show (rowG M E i met (c + 1)).2 = (rowG M E i met c).2 ++ [(idxE E (rowG M E i met c).1 (M.st i c) : Int)] from rfl]
    refine ⟨by simp [h1], fun d hd => ?_⟩
    rcases Nat.lt_or_ge d c with hl | hl
    · rw [← h2 d hl]; unfold gi; rw [List.getElem?_append_left (by omega)]
    · obtain rfl : d = c := by omega
      unfold gi
      rw [List.getElem?_append_right (by omega), h1]
      simp
theorem rowG_pre {M : Mc} {E : Nat → Nat → Bool} {i : Nat} {met : List Nat} : ∀ c, ∃ l, (rowG M E i met c).1 = met ++ l
  | 0 => ⟨[], by simp [rowG]⟩
  | c + 1 => by
    obtain ⟨l, h⟩ := rowG_pre (M := M) (E := E) (i := i) (met := met) c
    rw [show (rowG M E i met (c + 1)).1 = if idxE E (rowG M E i met c).1 (M.st i c) = (rowG M E i met c).1.length then (rowG M E i met c).1 ++ [M.st i c] else (rowG M E i met c).1 from rfl]
    split
    · exact ⟨l ++ [M.st i c], by rw [h, List.append_assoc]⟩
    · exact ⟨l, h⟩
theorem bfs_pre {M : Mc} {E : Nat → Nat → Bool} (a : Nat) : ∀ d, ∃ l1 l2 l3, (bfs M E (a + d)).met = (bfs M E a).met ++ l1 ∧ (bfs M E (a + d)).rows = (bfs M E a).rows ++ l2 ∧ (bfs M E (a + d)).tks = (bfs M E a).tks ++ l3
  | 0 => ⟨[], [], [], by simp, by simp, by simp⟩
  | d + 1 => by
    obtain ⟨l1, l2, l3, h1, h2, h3⟩ := bfs_pre (M := M) (E := E) a d
    rw [← Nat.add_assoc]
    rw [show bfs M E (a + d + 1) = if a + d < (bfs M E (a + d)).met.length then ⟨(rowG M E ((bfs M E (a + d)).met.getD (a + d) 0) (bfs M E (a + d)).met M.s).1, (bfs M E (a + d)).rows ++ [(rowG M E ((bfs M E (a + d)).met.getD (a + d) 0) (bfs M E (a + d)).met M.s).2], (bfs M E (a + d)).tks ++ [bo M.tk ((bfs M E (a + d)).met.getD (a + d) 0)]⟩ else bfs M E (a + d) from rfl]
    split
    · obtain ⟨l, hl⟩ := rowG_pre (M := M) (E := E) (i := (bfs M E (a + d)).met.getD (a + d) 0) (met := (bfs M E (a + d)).met) M.s
      exact ⟨l1 ++ l, l2 ++ [(rowG M E ((bfs M E (a + d)).met.getD (a + d) 0) (bfs M E (a + d)).met M.s).2], l3 ++ [bo M.tk ((bfs M E (a + d)).met.getD (a + d) 0)], by simp only [hl]; rw [h1, List.append_assoc], by simp only []; rw [h2, List.append_assoc], by simp only []; rw [h3, List.append_assoc]⟩
    · exact ⟨l1, l2, l3, h1, h2, h3⟩
theorem bfs_self {M : Mc} (hM : M.Ok) : ∀ a, bfs M.least M.least.eqB a = ⟨List.range (bfs M M.eqB a).met.length, (bfs M M.eqB a).rows, (bfs M M.eqB a).tks⟩
  | 0 => rfl
  | a + 1 => by
    have ih := bfs_self hM a
    rw [show bfs M.least M.least.eqB (a + 1) = if a < (bfs M.least M.least.eqB a).met.length then ⟨(rowG M.least M.least.eqB ((bfs M.least M.least.eqB a).met.getD a 0) (bfs M.least M.least.eqB a).met M.s).1, (bfs M.least M.least.eqB a).rows ++ [(rowG M.least M.least.eqB ((bfs M.least M.least.eqB a).met.getD a 0) (bfs M.least M.least.eqB a).met M.s).2], (bfs M.least M.least.eqB a).tks ++ [bo M.least.tk ((bfs M.least M.least.eqB a).met.getD a 0)]⟩ else bfs M.least M.least.eqB a from rfl]
    rw [ih]
    simp only [List.length_range]
    have hok := bfs_ok hM a
    by_cases ha : a < (bfs M M.eqB a).met.length
    · have hstep : bfs M M.eqB (a + 1) = ⟨(rowG M M.eqB ((bfs M M.eqB a).met.getD a 0) (bfs M M.eqB a).met M.s).1, (bfs M M.eqB a).rows ++ [(rowG M M.eqB ((bfs M M.eqB a).met.getD a 0) (bfs M M.eqB a).met M.s).2], (bfs M M.eqB a).tks ++ [bo M.tk ((bfs M M.eqB a).met.getD a 0)]⟩ := by
        rw [show bfs M M.eqB (a + 1) = if a < (bfs M M.eqB a).met.length then ⟨(rowG M M.eqB ((bfs M M.eqB a).met.getD a 0) (bfs M M.eqB a).met M.s).1, (bfs M M.eqB a).rows ++ [(rowG M M.eqB ((bfs M M.eqB a).met.getD a 0) (bfs M M.eqB a).met M.s).2], (bfs M M.eqB a).tks ++ [bo M.tk ((bfs M M.eqB a).met.getD a 0)]⟩ else bfs M M.eqB a from rfl, if_pos ha]
      have hok1 := bfs_ok hM (a + 1)
      have han : a + 1 ≤ M.n := Nat.le_trans ha hok.met.len
      obtain ⟨l1, l2, l3, e1, e2, e3⟩ := bfs_pre (M := M) (E := M.eqB) (a + 1) (M.n - (a + 1))
      rw [show a + 1 + (M.n - (a + 1)) = M.n by omega] at e1 e2 e3
      have hrl : (bfs M M.eqB a).rows.length = a := by rw [hok.rl]; omega
      have hmet : M.met = (bfs M M.eqB (a + 1)).met ++ l1 := e1
      have hrow : ro M.least.nx a = (rowG M M.eqB ((bfs M M.eqB a).met.getD a 0) (bfs M M.eqB a).met M.s).2 := by
        show ro (bfs M M.eqB M.n).rows a = _
        rw [e2, hstep]
        unfold ro
        simp only []
        rw [List.append_assoc, List.getElem?_append_right (by omega), hrl]
        simp
      obtain ⟨q, hq⟩ := rowG_pre (M := M) (E := M.eqB) (i := (bfs M M.eqB a).met.getD a 0) (met := (bfs M M.eqB a).met) M.s
      have hm2 : M.met = (rowG M M.eqB ((bfs M M.eqB a).met.getD a 0) (bfs M M.eqB a).met M.s).1 ++ l1 := by rw [hmet, hstep]
      have hgd : M.met.getD a 0 = (bfs M M.eqB a).met.getD a 0 := by rw [hm2, hq, List.append_assoc, getD_app ha]
      have hal : a < M.met.length := by rw [hm2, hq]; simp only [List.length_append]; omega
      have hself := rowG_self hM hal ((bfs M M.eqB a).met.getD a 0) (bfs M M.eqB a).met (hok.met.at_lt hM a) hok.met
        (fun c hc => ⟨idxE M.eqB (rowG M M.eqB ((bfs M M.eqB a).met.getD a 0) (bfs M M.eqB a).met c).1 (M.st ((bfs M M.eqB a).met.getD a 0) c), by rw [hrow, (rowG_gi M.s).2 c hc], _, rfl, rfl⟩)
        (by rw [Mc.least_n hM, hm2]; simp only [List.length_append]; omega) M.s (Nat.le_refl _)
      have hga : (List.range (bfs M M.eqB a).met.length).getD a 0 = a := by rw [List.getD_eq_getElem?_getD, List.getElem?_range ha]; rfl
      rw [if_pos ha, hga, hself, hstep, Mc.least_tk hM hal, hgd]
    · rw [if_neg ha]
      rw [show bfs M M.eqB (a + 1) = if a < (bfs M M.eqB a).met.length then _ else bfs M M.eqB a from rfl, if_neg ha]
/-- The least machine is its own least one. -/
theorem Mc.least_least {M : Mc} (hM : M.Ok) : M.least.least = M.least := by
  have h1 := bfs_self hM M.least.n
  have h2 : bfs M M.eqB M.least.n = bfs M M.eqB M.n := by
    refine bfs_end hM ?_
    have hl := Mc.least_n hM
    have hle := Mc.least_le hM
    obtain ⟨l1, l2, l3, e1, e2, e3⟩ := bfs_pre (M := M) (E := M.eqB) M.least.n (M.n - M.least.n)
    rw [show M.least.n + (M.n - M.least.n) = M.n by omega] at e1
    have : M.met.length = (bfs M M.eqB M.least.n).met.length + l1.length := by unfold Mc.met; rw [e1, List.length_append]
    omega
  rw [h2] at h1
  show Mc.mk M.sg (bfs M.least M.least.eqB M.least.n).rows (bfs M.least M.least.eqB M.least.n).tks = Mc.mk M.sg (bfs M M.eqB M.n).rows (bfs M M.eqB M.n).tks
  rw [h1]
end Go.Proofs.YtchhbnnpannnhaaGreatDoor
