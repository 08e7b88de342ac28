/- A book's Text, New, Now, and the laws' steps on it. Condition: the table of internal/strconv.uint64pow10 reads as the library's text lays it. -/
import Derived.Test.YtgmmlblefealjaaDoorBookD
import Derived.Test.YtgmmlblefealjaaDoorStrs
namespace Go.Proofs.YtgmmlblefealjaaDoor
open Go.RowKit IntWalk
attribute [local go_sem] byte_at str_app
attribute [local go_sem ↓] Go.wp_at_zero Go.wp_at_succ

set_option maxHeartbeats 2000000 in
set_option maxRecDepth 100000 in
/-- strings.Builder's String, of a book whose builder holds a byte at least. -/
theorem bkString (F : Nat → Option Obj) (B b : Nat) (now l : List UInt8) (many : Nat) (w : World) (h : Bk F B b now l many w) (h0 : l ≠ []) :
    Calls Tryd.prog 22 #[.pointer (some ⟨b, 1, none⟩)] w fun e w' => e = .returned (S l) ∧ Bk F B b now l many w' ∧ Below B w w' := by
  obtain ⟨p, hp, hAt⟩ := h
  obtain ⟨hB, v, hbk, hown, hne, hF⟩ := hAt
  have hl0 : l.length ≠ 0 := by simpa using h0
  rw [Lib.byteCells_length] at hown
  obtain ⟨g, cap, cur, fz, rfl, hbg, hg, hfz, hnc, hcm, hcs, htake⟩ : ∃ g cap cur fz, v = .slice (some ⟨g, 0, none⟩) l.length cap ∧ B ≤ g ∧ w.heap[g]? = some (.cells cur 5 fz) ∧ fz.2 ≤ l.length * 1 ∧ l.length ≤ cap ∧ cap ≤ maxLen ∧ cur.size = cap * 1 ∧ cur.toList.take (l.length * 1) = Lib.byteCells l := by
    rcases hown.2 with ⟨_, hz⟩ | ⟨g, cap, cur, fz, hv, r⟩
    · exact absurd hz hl0
    · exact ⟨g, cap, cur, fz, hv, r⟩
  have hgb : g ≠ b := fun e => hne (by rw [← e]; rfl)
  have hbk2 : w.drew.heap[b]? = some (.cells #[S now, p, .slice (some ⟨g, 0, none⟩) l.length cap, .int .i64 (many : Int)] 55 (0, 0)) := hbk
  have c1 : w.drew.cell? ⟨b, 2, none⟩ = some (.slice (some ⟨g, 0, none⟩) l.length cap) := by rw [Lib.cell_of_heap hbk2]; rfl
  have hSD : (Builtin.unsafeSliceData_ #[47] 67 #[.slice (some ⟨g, 0, none⟩) l.length cap]).run Tryd.prog w.drew = .ok (.pointer (some ⟨g, 0, none⟩)) w.drew :=
    Lib.run_unsafeSliceData_row _ _ _ _ _ _ (by omega)
  have hg' : w.drew.heap[g]? = some (.cells cur 5 fz) := hg
  have hUS : (Builtin.unsafeString_ #[67, 3] 9 #[.pointer (some ⟨g, 0, none⟩), .int .i64 l.length]).run Tryd.prog w.drew = .ok (.string ⟨l.toArray⟩) (w.drew.freeze ⟨g, 0, none⟩ l.length) := by
    refine Lib.run_unsafeString_row w.drew 67 3 9 5 Tryd.underlying67 cells_byte g cur.size (by simp [World.shape?, hg']) l h0 (by omega) (by unfold maxLen at hcm; omega) ?_
    intro j x hx
    have := hown.cells (g := g) rfl j (.int .u8 x.toNat) (by simp [Lib.byteCells, hx])
    exact this
  have hfr : ∀ k, k ≠ g → (w.drew.freeze ⟨g, 0, none⟩ l.length).heap[k]? = w.heap[k]? := fun k hk => by
    unfold World.freeze
    rw [if_neg hl0]
    show (w.drew.heap.modify g _)[k]? = _
    rw [Array.getElem?_modify, if_neg (fun e => hk e.symm)]
    rfl
  have hkeep : Bk F B b now l many (w.drew.freeze ⟨g, 0, none⟩ l.length) := by
    refine ⟨p, hp, hB, _, (hfr b (fun e => hgb e.symm)).trans hbk, ?_, hne, fun k o hk => ⟨(hfr k (fun e => (hF k o hk).2.2 (by rw [e]; rfl))).trans (hF k o hk).1, (hF k o hk).2⟩⟩
    rw [Lib.byteCells_length]
    refine ⟨hown.1, .inr ⟨g, cap, cur, (if fz.1 == fz.2 then (0, 0 + l.length) else (min fz.1 0, max fz.2 (0 + l.length))), rfl, hbg, ?_, ?_, hnc, hcm, hcs, htake⟩⟩
    · unfold World.freeze
      rw [if_neg hl0]
      show (w.drew.heap.modify g _)[g]? = _
      rw [Array.getElem?_modify, if_pos rfl, hg']
      rfl
    · split
      · simp
      · simp only []; omega
  have HK := Lib.hid hkeep
  have HB := Lib.hid (Lib.below_freeze (Below.drew (Below.refl B w)) (p := ⟨g, 0, none⟩) hbg l.length)
  clear hkeep hfr hF hg' hown htake hfz hcs hbk hbk2 hg
  go_enter Tryd.func22, Tryd.ntmps22
  have mixed : Tryd.prog.follows .mixedOrders = true := by kernel_rfl
  go_wp2
  go_region_o
  all_goals (go_wp2; go_ret; exact ⟨rfl, HK.out, HB.out⟩)

set_option maxHeartbeats 400000 in
theorem text_any (F : Nat → Option Obj) (B b : Nat) (now l : List UInt8) (many : Nat) (w : World) (h : Bk F B b now l many w) (h0 : l ≠ []) :
    Calls Tryd.prog 15 #[.pointer (some ⟨b, 0, none⟩)] w fun e w' => e = .returned (S l) ∧ Bk F B b now l many w' ∧ Below B w w' := by
  have HC := Lib.hid (bkString F B b now l many w h h0)
  clear h
  go_enter Tryd.func15, Tryd.ntmps15
  go_wp2_with fail
  refine HC.out.mono ?_
  rintro e w' ⟨rfl, hk, hb⟩
  have HK := Lib.hid hk; have HB := Lib.hid hb
  clear hk hb
  go_wp2_with fail
  go_ret
  exact ⟨rfl, HK.out, HB.out⟩
set_option maxHeartbeats 400000 in
theorem now_any (F : Nat → Option Obj) (B b : Nat) (now l : List UInt8) (many : Nat) (w : World) (h : Bk F B b now l many w) :
    Calls Tryd.prog 13 #[.pointer (some ⟨b, 0, none⟩)] w fun e w' => e = .returned (S now) ∧ w = w' := by
  obtain ⟨p, hp, hat⟩ := h
  obtain ⟨c0, _⟩ := hat.cells
  clear hat
  go_enter Tryd.func13, Tryd.ntmps13
  go_wp2
  go_ret
  exact ⟨rfl, rfl⟩
theorem new_any (F : Nat → Option Obj) (w : World) (hF : ∀ k o, F k = some o → w.heap[k]? = some o) :
    Calls Tryd.prog 9 #[] w fun e w' => e = .returned (.pointer (some ⟨w.heap.size, 0, none⟩)) ∧ Bk F w.heap.size w.heap.size [] [] 0 w' ∧ Below w.heap.size w w' := by
  have HK : Hid (Bk F w.heap.size w.heap.size [] [] 0 (w.alloc (.cells #[S [], .pointer none, .slice none 0 0, .int .i64 0] 55))) :=
    Lib.hid ⟨_, .inl rfl, Nat.le_refl _, .slice none 0 0, heap_alloc_new w _, World.ownsRowF_nil _ _ _ _, by simp [Value.ownBlock], fun k o hk => by
      have hl : k < w.heap.size := (Array.getElem?_eq_some_iff.1 (hF k o hk)).1
      exact ⟨(Lib.alloc_old w _ k hl).trans (hF k o hk), by omega, by simp [Value.ownBlock]⟩⟩
  have HB := Lib.hid ((Below.refl w.heap.size w).alloc (Nat.le_refl _) (.cells #[S [], .pointer none, .slice none 0 0, .int .i64 0] 55))
  go_enter Tryd.func9, Tryd.ntmps9
  go_wp2
  go_ret
  exact ⟨rfl, HK.out, HB.out⟩

/-- A book's state, and a step on it: what is wrong, and the state behind it. -/
structure BS where
  now : List UInt8
  txt : List UInt8
  many : Nat
def putS (s : BS) (at_ : Int) (x : List UInt8) : Int × BS := (putE s.now s.many at_ x, if putE s.now s.many at_ x = 0 then ⟨putN s.now at_.toNat x, s.txt ++ downM (putL at_.toNat x), s.many + 1⟩ else s)
def cutS (s : BS) (at_ k : Int) : Int × BS := (cutE s.now s.many at_ k, if cutE s.now s.many at_ k = 0 then ⟨cutN s.now at_.toNat k.toNat, s.txt ++ downM (cutL at_.toNat k.toNat), s.many + 1⟩ else s)
def stepS (s : BS) (p q : Int) (x : List UInt8) : Int × BS := if x = [] then cutS s p q else putS s p x
abbrev Bks (F : Nat → Option Obj) (B b : Nat) (s : BS) (w : World) : Prop := Bk F B b s.now s.txt s.many w
abbrev Smalls (s : BS) : Prop := Small s.now s.txt s.many
theorem putS_small {s : BS} (h : Smalls s) (at_ : Int) (x : List UInt8) : Smalls (putS s at_ x).2 := by
  unfold putS
  by_cases he : putE s.now s.many at_ x = 0
  · simp only [if_pos he]
    unfold putE at he
    by_cases h1 : 0 ≤ at_ ∧ at_ ≤ s.now.length
    rotate_left
    · rw [if_pos h1] at he; cases he
    rw [if_neg (fun h => h h1)] at he
    by_cases h2 : wordE x = 0
    rotate_left
    · rw [if_pos h2] at he; exact absurd he h2
    rw [if_neg (fun h => h h2)] at he
    by_cases h3 : 24 < s.now.length + x.length ∨ s.many = 60
    · rw [if_pos h3] at he; cases he
    obtain ⟨w1, w8⟩ := wordE_len h2
    obtain ⟨g1, g2, g3⟩ := h
    have hi := itoa_len at_.toNat (by omega)
    have hd := downM_len (putL at_.toNat x)
    have hpl : (putL at_.toNat x).length ≤ 40 := by
      unfold putL lineM
      generalize Lib.itoa ((at_.toNat : Nat) : Int) = I at hi ⊢
      simp only [List.length_append, List.length_cons, List.length_nil]; omega
    refine ⟨?_, ?_, ?_⟩
    · show (putN s.now at_.toNat x).length ≤ 24
      simp only [putN, List.length_append, List.length_take, List.length_drop]; omega
    · show s.many + 1 ≤ 60; omega
    · show (s.txt ++ downM (putL at_.toNat x)).length ≤ (s.many + 1) * 80
      rw [List.length_append]; omega
  · simp only [if_neg he]; exact h
theorem cutS_small {s : BS} (h : Smalls s) (at_ k : Int) : Smalls (cutS s at_ k).2 := by
  unfold cutS
  by_cases he : cutE s.now s.many at_ k = 0
  · simp only [if_pos he]
    unfold cutE at he
    by_cases h1 : 0 ≤ at_ ∧ at_ ≤ s.now.length
    rotate_left
    · rw [if_pos h1] at he; cases he
    rw [if_neg (fun h => h h1)] at he
    by_cases h2 : 1 ≤ k ∧ k ≤ s.now.length - at_
    rotate_left
    · rw [if_pos h2] at he; cases he
    rw [if_neg (fun h => h h2)] at he
    by_cases h3 : s.many = 60
    · rw [if_pos h3] at he; cases he
    obtain ⟨g1, g2, g3⟩ := h
    have hi := itoa_len at_.toNat (by omega)
    have hj := itoa_len k.toNat (by omega)
    have hd := downM_len (cutL at_.toNat k.toNat)
    have hpl : (cutL at_.toNat k.toNat).length ≤ 50 := by
      unfold cutL lineM
      generalize Lib.itoa ((at_.toNat : Nat) : Int) = I at hi ⊢
      generalize Lib.itoa ((k.toNat : Nat) : Int) = J at hj ⊢
      simp only [List.length_append, List.length_cons, List.length_nil]; omega
    refine ⟨?_, ?_, ?_⟩
    · show (cutN s.now at_.toNat k.toNat).length ≤ 24
      simp only [cutN, List.length_append, List.length_take, List.length_drop]; omega
    · show s.many + 1 ≤ 60; omega
    · show (s.txt ++ downM (cutL at_.toNat k.toNat)).length ≤ (s.many + 1) * 80
      rw [List.length_append]; omega
  · simp only [if_neg he]; exact h
theorem stepS_small {s : BS} (h : Smalls s) (p q : Int) (x : List UInt8) : Smalls (stepS s p q x).2 := by
  unfold stepS
  split
  · exact cutS_small h p q
  · exact putS_small h p x
theorem put_s (F : Nat → Option Obj) (B b : Nat) (s : BS) (x : List UInt8) (at_ : Int) (w : World) (h : Bks F B b s w) (ht : TG w) (hs : Smalls s) (hs9 : x.length ≤ 9223372036854775807) (hBw : B ≤ w.heap.size) (hB0 : 1 < B) :
    Calls Tryd.prog 10 #[.pointer (some ⟨b, 0, none⟩), .int .i64 at_, S x] w fun e w' => e = .returned (errV (putS s at_ x).1) ∧ Below B w w' ∧ Bks F B b (putS s at_ x).2 w' := by
  refine (put_any F B b s.now s.txt x s.many at_ w h ht hs hs9 hBw hB0).mono ?_
  rintro e w' ⟨he, hb, h⟩
  refine ⟨he, hb, ?_⟩
  unfold putS
  rcases h with ⟨h1, h2⟩ | ⟨h1, h2⟩
  · simp only [if_neg h1]; exact h2
  · simp only [if_pos h1]; exact h2
theorem cut_s (F : Nat → Option Obj) (B b : Nat) (s : BS) (at_ k : Int) (w : World) (h : Bks F B b s w) (ht : TG w) (hs : Smalls s) (hB0 : 1 < B) :
    Calls Tryd.prog 11 #[.pointer (some ⟨b, 0, none⟩), .int .i64 at_, .int .i64 k] w fun e w' => e = .returned (errV (cutS s at_ k).1) ∧ Below B w w' ∧ Bks F B b (cutS s at_ k).2 w' := by
  refine (cut_any F B b s.now s.txt s.many at_ k w h ht hs hB0).mono ?_
  rintro e w' ⟨he, hb, h⟩
  refine ⟨he, hb, ?_⟩
  unfold cutS
  rcases h with ⟨h1, h2⟩ | ⟨h1, h2⟩
  · simp only [if_neg h1]; exact h2
  · simp only [if_pos h1]; exact h2

end Go.Proofs.YtgmmlblefealjaaDoor
