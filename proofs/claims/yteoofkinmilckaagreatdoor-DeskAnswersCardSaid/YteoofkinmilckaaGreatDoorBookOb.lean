/- A text cut at a byte, plain; what Open says in the document's words; the document's Cut: its walk. No condition. -/
import Derived.Test.YteoofkinmilckaaGreatDoorBookOa
import Derived.Test.YteoofkinmilckaaGreatDoorBookY
namespace Go.Proofs.YteoofkinmilckaaGreatDoor
open Go.RowKit IntWalk
attribute [local go_sem] byte_at str_app
attribute [local go_sem ↓] Go.wp_at_zero Go.wp_at_succ

/-- A text cut at a byte. -/
def cutB (c : UInt8) : List UInt8 → List (List UInt8)
  | [] => [[]]
  | x :: l => if x = c then [] :: cutB c l else match cutB c l with
    | h :: t => (x :: h) :: t
    | [] => [[x]]
theorem cutB_ne (c : UInt8) (l : List UInt8) : cutB c l ≠ [] := by
  cases l with
  | nil => simp [cutB]
  | cons x l =>
    unfold cutB
    split
    · simp
    · split <;> simp
theorem cutB_no {c : UInt8} : ∀ {a : List UInt8}, (∀ x ∈ a, x ≠ c) → cutB c a = [a]
  | [], _ => rfl
  | x :: a, h => by
    unfold cutB
    rw [if_neg (h x (by simp)), cutB_no (fun y hy => h y (by simp [hy]))]
theorem cutB_at {c : UInt8} (t : List UInt8) : ∀ {a : List UInt8}, (∀ x ∈ a, x ≠ c) → cutB c (a ++ c :: t) = a :: cutB c t
  | [], _ => by
    show (if c = c then [] :: cutB c t else _) = _
    rw [if_pos rfl]
  | x :: a, h => by
    show (if x = c then [] :: cutB c (a ++ c :: t) else match cutB c (a ++ c :: t) with
      | h :: t => (x :: h) :: t
      | [] => [[x]]) = _
    rw [if_neg (h x (by simp)), cutB_at t (fun y hy => h y (by simp [hy]))]
theorem cut_part (c : UInt8) : ∀ l : List UInt8, (∀ x ∈ l, x ≠ c) ∨ ∃ a t, l = a ++ c :: t ∧ ∀ x ∈ a, x ≠ c
  | [] => .inl fun _ h => by cases h
  | x :: l => by
    by_cases e : x = c
    · exact .inr ⟨[], l, by simp [e], fun _ h => by cases h⟩
    · rcases cut_part c l with h | ⟨a, t, rfl, h⟩
      · exact .inl fun y hy => by
          rcases List.mem_cons.1 hy with rfl | hy
          · exact e
          · exact h y hy
      · exact .inr ⟨x :: a, t, by simp, fun y hy => by
          rcases List.mem_cons.1 hy with rfl | hy
          · exact e
          · exact h y hy⟩
theorem splitL_cut : ∀ (n : Nat) (p : List UInt8), p.length ≤ n → splitL p = cutB 32 p := by
  intro n
  induction n with
  | zero =>
    intro p hp
    obtain rfl : p = [] := List.eq_nil_of_length_eq_zero (by omega)
    rfl
  | succ n ih =>
    intro p hp
    rcases cut_part 32 p with h | ⟨a, t, rfl, h⟩
    · rw [cutB_no h]
      unfold splitL
      rw [Lib.splitB_miss _ _ _ _ (show Lib.indexB ⟨p.toArray⟩ ⟨#[32]⟩ = -1 from index_no p h)]
      rfl
    · have i1 : Lib.indexB ⟨(a ++ 32 :: t).toArray⟩ ⟨#[32]⟩ = (a.length : Int) := index_sp a _ h
      have s1 : (ByteArray.mk #[32]).size = 1 := rfl
      have iht := ih t (by rw [List.length_append, List.length_cons] at hp; omega)
      rw [cutB_at t h, ← iht]
      unfold splitL
      rw [Lib.countB_hit _ _ a.length (by decide) i1, s1, cut_sp, Nat.add_comm 1, Lib.splitB_hit _ _ _ _ _ i1, s1, cut_sp, List.map_cons, Nat.add_zero, str_to, List.take_left]

/-! The lines of a text. -/
theorem suf_10 {r : List UInt8} (h : Lib.hasSuffix r [10] = true) : (10 : UInt8) ∈ r := by
  unfold Lib.hasSuffix at h
  rw [List.isSuffixOf_iff_suffix] at h
  exact h.subset (by simp)
theorem chunks_lines : ∀ (n : Nat) (T : List UInt8), T.length ≤ n → ∃ rest, chunks T = ((cutB 10 T).dropLast.map fun x => x ++ [10]) ++ rest ∧ (rest = [] ∨ ∃ r, rest = [r] ∧ Lib.hasSuffix r [10] = false) := by
  intro n
  induction n with
  | zero =>
    intro T hT
    obtain rfl : T = [] := List.eq_nil_of_length_eq_zero (by omega)
    exact ⟨[], rfl, .inl rfl⟩
  | succ n ih =>
    intro T hT
    rcases cut_part 10 T with h | ⟨a, t, rfl, h⟩
    · rw [cutB_no h]
      by_cases h0 : T = []
      · subst h0; exact ⟨[], rfl, .inl rfl⟩
      · refine ⟨[T], by rw [chunks_one T h h0]; rfl, .inr ⟨T, rfl, ?_⟩⟩
        cases hs : Lib.hasSuffix T [10] with
        | false => rfl
        | true => exact absurd rfl (h _ (suf_10 hs))
    · obtain ⟨rest, h1, h2⟩ := ih t (by rw [List.length_append, List.length_cons] at hT; omega)
      refine ⟨rest, ?_, h2⟩
      rw [chunks_cut a t h, cutB_at t h, List.dropLast_cons_of_ne_nil (cutB_ne _ _), h1]
      rfl
/-- What the lines make, the document's way. -/
def openD : List (List UInt8) → BS → Nat → BS × Nat × Int
  | [], s, k => (s, k, 0)
  | l :: ls, s, k => if (lineR s l).1 ≠ 0 then (⟨[], [], 0⟩, k + 1, (lineR s l).1) else openD ls (lineR s l).2 (k + 1)
theorem putS_many {s : BS} {at_ : Int} {x : List UInt8} (h : (putS s at_ x).1 = 0) : (putS s at_ x).2.many = s.many + 1 := by
  have h' : putE s.now s.many at_ x = 0 := h
  unfold putS; simp only [if_pos h']
theorem cutS_many {s : BS} {at_ k : Int} (h : (cutS s at_ k).1 = 0) : (cutS s at_ k).2.many = s.many + 1 := by
  have h' : cutE s.now s.many at_ k = 0 := h
  unfold cutS; simp only [if_pos h']
theorem lineR_many {s : BS} {l : List UInt8} (h : (lineR s l).1 = 0) : (lineR s l).2.many = s.many + 1 := by
  unfold lineR at h ⊢
  split
  · rename_i c1; rw [if_pos c1] at h; cases h
  rename_i c1
  rw [if_neg c1] at h
  split
  · rename_i hn; rw [hn] at h; cases h
  rename_i n hn
  rw [hn] at h
  simp only [] at h
  split
  · rename_i c2; rw [if_pos c2] at h; cases h
  rename_i c2
  rw [if_neg c2] at h
  split
  · rename_i a b c hs
    rw [hs] at h
    simp only [] at h
    split
    · rename_i hi; rw [hi] at h; cases h
    · rename_i i2 hi
      rw [hi] at h
      simp only [] at h
      split
      · rename_i c3
        rw [if_pos c3] at h
        exact putS_many h
      · rename_i c3
        rw [if_neg c3] at h
        split
        · rename_i c4
          rw [if_pos c4] at h
          split
          · rename_i hk; rw [hk] at h; cases h
          · rename_i k2 hk
            rw [hk] at h
            exact cutS_many h
        · rename_i c4; rw [if_neg c4] at h; cases h
  · rename_i hs
    split at h
    · rename_i a b c hs2; exact absurd hs2 (hs a b c)
    · cases h
theorem stepC_line {s s1 : BS} {l : List UInt8} (h : stepC (some s) (l ++ [10]) = some s1) : (lineR s l).1 = 0 ∧ s1 = (lineR s l).2 := by
  unfold stepC at h
  simp only [] at h
  rw [has_10, trim_10] at h
  by_cases hc : (lineR s l).1 = 0
  · rw [if_pos ⟨rfl, hc⟩] at h
    exact ⟨hc, (Option.some.inj h).symm⟩
  · rw [if_neg (fun h => hc h.2)] at h; cases h
/-- Lines with nothing wrong. -/
theorem openD_app (ls : List (List UInt8)) : ∀ (A : List (List UInt8)) (s s1 : BS) (k : Nat), (A.map fun x => x ++ [10]).foldl stepC (some s) = some s1 → openD (A ++ ls) s k = openD ls s1 (k + A.length) ∧ s1.many = s.many + A.length
  | [], s, s1, k, h => by
    obtain rfl := Option.some.inj h
    exact ⟨rfl, rfl⟩
  | l :: A, s, s1, k, h => by
    rw [List.map_cons, List.foldl_cons] at h
    cases hq : stepC (some s) (l ++ [10]) with
    | none => rw [hq, foldl_none] at h; cases h
    | some s2 =>
      rw [hq] at h
      obtain ⟨h0, rfl⟩ := stepC_line hq
      obtain ⟨h1, h2⟩ := openD_app ls A _ s1 (k + 1) h
      rw [lineR_many h0] at h2
      refine ⟨?_, by rw [h2, List.length_cons]; omega⟩
      rw [List.cons_append, show openD (l :: (A ++ ls)) s k = if (lineR s l).1 ≠ 0 then (⟨[], [], 0⟩, k + 1, (lineR s l).1) else openD (A ++ ls) (lineR s l).2 (k + 1) from rfl]
      rw [if_neg (fun h => h h0), h1, List.length_cons, show k + 1 + A.length = k + (A.length + 1) by omega]
theorem pre_full {pre : List (List UInt8)} {s : BS} (h : runC pre = some s) : ∀ x ∈ pre, Lib.hasSuffix x [10] = true := by
  have : ∀ (pre : List (List UInt8)) (o : Option BS), pre.foldl stepC o = some s → ∀ x ∈ pre, Lib.hasSuffix x [10] = true := by
    intro pre
    induction pre with
    | nil => intro _ _ x hx; cases hx
    | cons y pre ih =>
      intro o h x hx
      rw [List.foldl_cons] at h
      rcases List.mem_cons.1 hx with rfl | hx
      · cases hs : Lib.hasSuffix x [10] with
        | true => rfl
        | false =>
          have : stepC o x = none := by
            cases o with
            | none => rfl
            | some s =>
              unfold stepC
              simp only []
              rw [if_neg (fun h => by rw [hs] at h; cases h.1)]
          rw [this, foldl_none] at h; cases h
      · exact ih _ h x hx
  exact this pre _ h
/-- What Open says, the document's way. -/
theorem opens_doc {T : List UInt8} {w w' : World} {e : Ending} (h : OpenSays w T e w') :
    ((openD (cutB 10 T).dropLast ⟨[], [], 0⟩ 0).2.2 = 0 ∧ ∃ b, e = .returned (.tuple #[.pointer (some ⟨b, 0, none⟩), .int .i64 ((openD (cutB 10 T).dropLast ⟨[], [], 0⟩ 0).2.1 : Int), .nilIface]) ∧ Bks nF w.heap.size b (openD (cutB 10 T).dropLast ⟨[], [], 0⟩ 0).1 w' ∧ Smalls (openD (cutB 10 T).dropLast ⟨[], [], 0⟩ 0).1) ∨
    ((openD (cutB 10 T).dropLast ⟨[], [], 0⟩ 0).2.2 ≠ 0 ∧ e = .returned (.tuple #[.pointer none, .int .i64 ((openD (cutB 10 T).dropLast ⟨[], [], 0⟩ 0).2.1 : Int), errV (openD (cutB 10 T).dropLast ⟨[], [], 0⟩ 0).2.2])) := by
  obtain ⟨rest, hch, hrest⟩ := chunks_lines T.length T (Nat.le_refl _)
  generalize (cutB 10 T).dropLast = L at *
  have hM : ∀ x ∈ L.map fun x => x ++ [10], Lib.hasSuffix x [10] = true := fun x hx => by
    obtain ⟨y, _, rfl⟩ := List.mem_map.1 hx
    exact has_10 y
  rcases h with ⟨s, pre, b, hpre, hrun, he, hbk⟩ | ⟨s, pre, x, t, hpre, hrun, hsuf, hl, he⟩
  · have hp : pre = L.map fun x => x ++ [10] := by
      have hf := pre_full hrun
      rcases hpre with rfl | ⟨x, t, hx, hns⟩
      · rcases hrest with rfl | ⟨r, rfl, hr⟩
        · rw [hch, List.append_nil]
        · have := hf r (by rw [hch]; simp)
          rw [hr] at this; cases this
      · rw [hch] at hx
        rcases List.append_eq_append_iff.1 hx with ⟨a', h1, h2⟩ | ⟨c', h1, h2⟩
        · rcases hrest with rfl | ⟨r, rfl, hr⟩
          · simp at h2
          · cases a' with
            | nil => rw [List.append_nil] at h1; exact h1
            | cons y a' => simp at h2
        · cases c' with
          | nil => rw [List.append_nil] at h1; exact h1.symm
          | cons y c' =>
            rw [List.cons_append] at h2
            have : x = y := (List.cons.inj h2).1
            subst this
            have := hM x (by rw [h1]; simp)
            rw [hns] at this; cases this
    subst hp
    obtain ⟨h1, h2⟩ := openD_app [] L _ s 0 hrun
    rw [List.append_nil] at h1
    have h3 : openD L ⟨[], [], 0⟩ 0 = (s, L.length, 0) := by rw [h1]; simp [openD]
    rw [h3]
    have h4 : s.many = L.length := by rw [h2]; exact Nat.zero_add _
    exact .inl ⟨rfl, b, by rw [he, h4], hbk, runC_small _ s hrun⟩
  · obtain ⟨A, y, B, rfl, rfl, rfl⟩ : ∃ A y B, L = A ++ y :: B ∧ pre = A.map (fun x => x ++ [10]) ∧ x = y ++ [10] := by
      rw [hch] at hpre
      have key : ∀ (L : List (List UInt8)) (pre : List (List UInt8)), (L.map fun x => x ++ [10]) ++ rest = pre ++ x :: t → (∀ z ∈ pre, Lib.hasSuffix z [10] = true) → ∃ A y B, L = A ++ y :: B ∧ pre = A.map (fun x => x ++ [10]) ∧ x = y ++ [10] := by
        intro L
        induction L with
        | nil =>
          intro pre hx hf
          exfalso
          rw [List.map_nil, List.nil_append] at hx
          rcases hrest with rfl | ⟨r, rfl, hr⟩
          · simp at hx
          · have hmem : r ∈ pre ++ x :: t := by rw [← hx]; simp
            have hall : Lib.hasSuffix r [10] = true := by
              cases pre with
              | nil =>
                rw [List.nil_append] at hx
                rw [(List.cons.inj hx).1]; exact hsuf
              | cons z pre =>
                rw [List.cons_append] at hx
                rw [(List.cons.inj hx).1]; exact hf z (by simp)
            rw [hr] at hall; cases hall
        | cons l L ih =>
          intro pre hx hf
          rw [List.map_cons, List.cons_append] at hx
          cases pre with
          | nil =>
            rw [List.nil_append] at hx
            exact ⟨[], l, L, rfl, rfl, (List.cons.inj hx).1.symm⟩
          | cons z pre =>
            rw [List.cons_append] at hx
            obtain ⟨e1, e2⟩ := List.cons.inj hx
            obtain ⟨A, y, B, rfl, rfl, rfl⟩ := ih pre e2 (fun z hz => hf z (by simp [hz]))
            exact ⟨l :: A, y, B, rfl, by rw [← e1]; rfl, rfl⟩
      exact key L pre hpre (pre_full hrun)
    obtain ⟨h1, h2⟩ := openD_app (y :: B) A _ s 0 hrun
    rw [trim_10] at hl he
    have h3 : openD (A ++ y :: B) ⟨[], [], 0⟩ 0 = (⟨[], [], 0⟩, A.length + 1, (lineR s y).1) := by
      rw [h1]
      unfold openD
      rw [if_pos hl, Nat.zero_add]
    have h4 : s.many = A.length := by rw [h2]; exact Nat.zero_add _
    rw [h3]
    rw [lineR_err hl, h4] at he
    exact .inr ⟨hl, he⟩

/-! The walk. -/
theorem own_ge {w : World} {base e size n c : Nat} {A : Option Addr} {xs : List Value} (h : w.ownsRow base e size (.slice A n c) n xs) : ∀ x, A = some x → base ≤ x.block ∧ x.block < w.heap.size := by
  intro x hx
  rcases h.2 with ⟨h1, h2⟩ | ⟨g, cap, cur, hv, hg, hb, _⟩
  · injection h1 with h1; rw [hx] at h1; cases h1
  · injection hv with h1 _ _
    rw [hx] at h1
    have := Option.some.inj h1
    subst this
    exact ⟨by first | exact hg | exact hb | omega, (Array.getElem?_eq_some_iff.1 (by assumption)).1⟩
theorem info_strB : (Tryz.prog.info? 9).map (fun i => (i.zero, i.size, i.bytes)) = some (some (.string ByteArray.empty), 1, 16) := by kernel_rfl
theorem str_midB (l : List UInt8) (a b : Nat) : (ByteArray.mk l.toArray).extract a b = ⟨((l.drop a).take (b - a)).toArray⟩ := by
  apply ByteArray.ext
  simp
theorem drop_part {l : List UInt8} {c : UInt8} {a i : Nat} (hi : i < l.length) (ha : a ≤ i) (hc : bu l i = c) : l.drop a = (l.drop a).take (i - a) ++ c :: l.drop (i + 1) := by
  have h1 : (l.drop a).drop (i - a) = c :: l.drop (i + 1) := by
    rw [List.drop_drop, show a + (i - a) = i by omega, List.drop_eq_getElem_cons hi]
    congr 1
    rw [← hc]; unfold bu; rw [List.getElem?_eq_getElem hi]; rfl
  conv => lhs; rw [← List.take_append_drop (i - a) (l.drop a), h1]
theorem take_more {l : List UInt8} {a i : Nat} (hi : i < l.length) (ha : a ≤ i) : (l.drop a).take (i + 1 - a) = (l.drop a).take (i - a) ++ [bu l i] := by
  rw [show i + 1 - a = (i - a) + 1 by omega, take_succ_bu (by rw [List.length_drop]; omega), bu_drop, show a + (i - a) = i by omega]

set_option maxRecDepth 100000 in
set_option maxHeartbeats 2000000 in
theorem cutL_any (l : List UInt8) (c : UInt8) (w : World) (hl : l.length ≤ 100000) :
    Calls Tryz.prog 21 #[S l, .int .u8 (c.toNat : Int)] w fun e w' => (∃ A k, e = .returned (.slice A (cutB c l).length k) ∧ Strs w' w'.heap.size A (cutB c l).length (cutB c l) ∧ ∀ x, A = some x → w.heap.size ≤ x.block) ∧ Below w.heap.size w w' := by
  obtain ⟨i0, hi, hz0, hz1, hz2⟩ := info_parts info_strB
  have HL : Hid (cutB c l = cutB c l) := Lib.hid rfl
  generalize hR : cutB c l = R at HL ⊢
  have HR := Lib.hid hR
  clear hR HL
  go_enter Tryz.func21, Tryz.ntmps21
  go_wp2_with fail
  go_loopg [5, 6, 7] (l.length + 1) (fun f v av iv wr => ∃ a i : Nat, ∃ zs : List (List UInt8), i + f = l.length + 1 ∧ iv = .int .i64 (i : Int) ∧ av = .int .i64 (a : Int) ∧ wr.ownsRow w.heap.size 9 1 v zs.length (zs.map S) ∧ zs.length ≤ i ∧ a ≤ i ∧ Hid ((i ≤ l.length ∧ (∀ x ∈ (l.drop a).take (i - a), x ≠ c) ∧ zs ++ cutB c (l.drop a) = R) ∨ (i = l.length + 1 ∧ zs = R)) ∧ Below w.heap.size w wr)
  case atStart => exact ⟨0, 0, [], by omega, rfl, rfl, World.ownsRow_nil _ _ _ _, by simp, by simp, Lib.hid (.inl ⟨by simp, fun x hx => by simp at hx, by rw [List.nil_append]; exact HR.out⟩), Below.refl _ _⟩
  case round =>
    obtain ⟨a, i, zs, hif, rfl, rfl, hown, hzl, hai, HC, hB⟩ := hrel
    have HOWN := Lib.hid hown
    obtain ⟨A1, c1, rfl, hc1⟩ := own_shape hown
    clear hown
    have HB := Lib.hid hB; clear hB
    have HZB := HB.out.size
    have f1 : IntKind.i64.wrap ((i : Int) + 1) = (i : Int) + 1 := i64_in _ (by omega)
    by_cases hle : i ≤ l.length
    · obtain ⟨f, rfl⟩ : ∃ f, gk = f + 1 := ⟨gk - 1, by omega⟩
      have hC := HC.out
      rcases hC with ⟨_, hno, happ⟩ | ⟨h, _⟩
      rotate_left
      · omega
      have HNO := Lib.hid hno; have HAPP := Lib.hid happ
      clear hno happ HC
      have hext : (ByteArray.mk l.toArray).extract a i = ByteArray.mk ((l.drop a).take (i - a)).toArray := str_midB _ _ _
      have f2 : (0 : Int) ≤ (a : Int) := by omega
      have f3 : (a : Int) ≤ (i : Int) := by omega
      have f4 : (i : Int) ≤ (l.length : Int) := by omega
      generalize hx : (l.drop a).take (i - a) = x at *
      have HX := Lib.hid hx
      clear hx
      by_cases hend : i = l.length
      · subst hend
        have hsame : (((l.length : Int)) == (l.length : Int)) = true := by simp
        have HZ : Hid (zs ++ [x] = R) := Lib.hid (by
          rw [← HAPP.out, cutB_no (c := c) (a := l.drop a) (fun y hy => HNO.out y (by rw [← HX.out, List.take_of_length_le (by rw [List.length_drop]; omega)]; exact hy))]
          rw [← HX.out, List.take_of_length_le (by rw [List.length_drop]; omega)])
        go_wp2_with (at_builtin; refine wpList_append1 rfl (.tmp 25) (.tmp 30) _ rfl 9 i0 _ Tryz.underlying35 hi hz0 hz1 (by omega) rfl w.heap.size (.slice A1 zs.length c1) (zs.map S) (S x) rfl rfl rfl (by rw [List.length_map]; exact HOWN.out) (by simp; omega) HZB ?_; intro v' w' hown' hB')
        have hown2 : w'.ownsRow w.heap.size 9 1 v' (zs ++ [x]).length ((zs ++ [x]).map S) := by rw [List.map_append]; simpa using hown'
        have HO2 := Lib.hid hown2; clear hown2 hown'
        have HB2 := Lib.hid (HB.out.trans hB'); clear hB'
        go_wp2_with fail
        go_roundg f
        case measure => omega
        case rel => exact ⟨l.length + 1, l.length + 1, zs ++ [x], by omega, by simp, by simp, HO2.out, by simp; omega, by omega, Lib.hid (.inr ⟨rfl, HZ.out⟩), HB2.out⟩
      · have hlt : i < l.length := by omega
        have hend' : ¬ (i : Int) = (l.length : Int) := by omega
        have hend2 : ((i : Int) == (l.length : Int)) = false := by simpa using hend'
        have f5 : (i : Int) < (l.length : Int) := by omega
        by_cases hb : bu l i = c
        · have q0 : (bu l i).toNat = c.toNat := by rw [hb]
          have q1 : ((bu l i).toNat : Int) = (c.toNat : Int) := by omega
          have HZ : Hid ((zs ++ [x]) ++ cutB c (l.drop (i + 1)) = R) := Lib.hid (by
            rw [← HAPP.out, drop_part (l := l) (a := a) hlt hai hb, HX.out, cutB_at _ HNO.out]
            simp)
          clear hb
          go_wp2_with (at_builtin; refine wpList_append1 rfl (.tmp 25) (.tmp 30) _ rfl 9 i0 _ Tryz.underlying35 hi hz0 hz1 (by omega) rfl w.heap.size (.slice A1 zs.length c1) (zs.map S) (S x) rfl rfl rfl (by rw [List.length_map]; exact HOWN.out) (by simp; omega) HZB ?_; intro v' w' hown' hB')
          have hown2 : w'.ownsRow w.heap.size 9 1 v' (zs ++ [x]).length ((zs ++ [x]).map S) := by rw [List.map_append]; simpa using hown'
          have HO2 := Lib.hid hown2; clear hown2 hown'
          have HB2 := Lib.hid (HB.out.trans hB'); clear hB'
          go_wp2_with fail
          go_roundg f
          case measure => omega
          case rel => exact ⟨i + 1, i + 1, zs ++ [x], by omega, by simp, by simp, HO2.out, by simp; omega, by omega, Lib.hid (.inl ⟨by omega, fun y hy => by simp at hy, HZ.out⟩), HB2.out⟩
        · have q0 : (bu l i).toNat ≠ c.toNat := fun e => hb (UInt8.toNat_inj.1 e)
          have q1 : ¬ ((bu l i).toNat : Int) = (c.toNat : Int) := by omega
          have q2 : (((bu l i).toNat : Int) == (c.toNat : Int)) = false := by simpa using q1
          have q3 : ((bu l i).toNat == c.toNat) = false := by simpa using q0
          have HZ : Hid (∀ y ∈ (l.drop a).take (i + 1 - a), y ≠ c) := Lib.hid (fun y hy => by
            rw [take_more hlt hai, HX.out, List.mem_append, List.mem_singleton] at hy
            rcases hy with hy | rfl
            · exact HNO.out y hy
            · exact hb)
          clear hb
          go_wp2_with fail
          go_roundg f
          case measure => omega
          case rel => exact ⟨a, i + 1, zs, by omega, by simp, rfl, HOWN.out, by omega, by omega, Lib.hid (.inl ⟨by omega, HZ.out, HAPP.out⟩), HB.out⟩
    · have hC := HC.out
      rcases hC with ⟨h, _⟩ | ⟨rfl, rfl⟩
      · omega
      have HS := Lib.hid (Strs.of_own HOWN.out)
      have f4 : ¬ ((l.length + 1 : Nat) : Int) ≤ (l.length : Int) := by omega
      clear HC
      go_wp2_with fail
      go_ret
      exact ⟨⟨A1, ⟨c1, rfl⟩, HS.out, fun x hx => (own_ge HOWN.out x hx).1⟩, HB.out⟩
end Go.Proofs.YteoofkinmilckaaGreatDoor
