/- The document's place; words for its table of names in memory, and what lies in it. -/
import Derived.Test.YtlbiklhndcamhaaDoorGramQ
namespace Go.Proofs.YtlbiklhndcamhaaDoor
open Go.RowKit GramM IntWalk
attribute [local go_sem] byte_at str_app

def plc : List UInt8 → UInt8 → Nat → Int
  | [], _, _ => -1
  | b :: l, c, k => if b = c then (k : Int) else plc l c (k + 1)
theorem plc_iff (l : List UInt8) (c : UInt8) : ∀ k, 0 ≤ plc l c k ↔ hasB l c = true := by
  induction l with
  | nil => intro k; simp [plc, hasB]
  | cons b l ih =>
    intro k
    show 0 ≤ (if b = c then (k : Int) else plc l c (k + 1)) ↔ _
    by_cases h : b = c
    · rw [if_pos h]; simp [hasB, h]
    · rw [if_neg h, ih (k + 1)]; simp [hasB, h]
theorem plc_cases (l : List UInt8) (c : UInt8) : ∀ k, (hasB l c = false ∧ plc l c k = -1) ∨ (hasB l c = true ∧ ∃ p : Nat, plc l c k = (p : Int)) := by
  induction l with
  | nil => intro k; exact .inl ⟨rfl, rfl⟩
  | cons b l ih =>
    intro k
    have hh : hasB (b :: l) c = (b == c || hasB l c) := rfl
    have hp : plc (b :: l) c k = if b = c then (k : Int) else plc l c (k + 1) := rfl
    by_cases h : b = c
    · rw [hh, hp, if_pos h]; exact .inr ⟨by simp [h], k, rfl⟩
    · rw [hh, hp, if_neg h, show (b == c) = false by simpa using h, Bool.false_or]
      exact ih (k + 1)
set_option maxHeartbeats 400000 in
theorem place_at (t : List UInt8) (c : UInt8) (w : World) (ht : t.length ≤ 1000) :
    Calls Tryd.prog 15 #[S t, .int .u8 (c.toNat : Int)] w fun e w' => e = .returned (.int .i64 (plc t c 0)) ∧ w' = w := by
  have HP : Hid (∀ i, i < t.length → plc (t.drop i) c i = if bu t i = c then (i : Int) else plc (t.drop (i + 1)) c (i + 1)) := Lib.hid fun i hi => by rw [drop_bu hi]; rfl
  have HE : Hid (plc (t.drop t.length) c t.length = -1) := Lib.hid (by rw [List.drop_length]; rfl)
  have H0 : Hid (plc t c 0 = plc (t.drop 0) c 0) := Lib.hid rfl
  generalize plc t c 0 = z at *
  go_enter Tryd.func15, Tryd.ntmps15
  go_wp2_with fail
  go_loopg [5] t.length (fun f iv wr => ∃ i : Nat, i + f = t.length ∧ iv = .int .i64 (i : Int) ∧ Hid (z = plc (t.drop i) c i) ∧ wr = w)
  case atStart => exact ⟨0, by omega, rfl, H0, rfl⟩
  case round =>
    obtain ⟨i, hif, rfl, HZ, rfl⟩ := hrel
    by_cases hi : i < t.length
    · obtain ⟨f, rfl⟩ : ∃ f, gk = f + 1 := ⟨gk - 1, by omega⟩
      have hst := HP.out i hi
      by_cases he : bu t i = c
      · have HF : Hid (z = (i : Int)) := Lib.hid (by rw [HZ.out, hst, if_pos he])
        obtain ⟨q1, q2, q3, q4⟩ := bu8_eq _ _ he
        clear hst he
        go_wp2_with fail
        go_ret
        exact ⟨by rw [HF.out]; rfl, rfl⟩
      · have HF : Hid (z = plc (t.drop (i + 1)) c (i + 1)) := Lib.hid (by rw [HZ.out, hst, if_neg he])
        obtain ⟨q1, q2, q3, q4⟩ := bu8_ne _ _ he
        clear hst he
        go_wp2_with fail
        go_roundg f
        case measure => omega
        case rel => exact ⟨i + 1, by omega, by simp, HF, rfl⟩
    · obtain rfl : i = t.length := by omega
      have HF : Hid (z = -1) := Lib.hid (by rw [HZ.out, HE.out])
      go_wp2_with fail
      go_ret
      exact ⟨by rw [HF.out]; rfl, rfl⟩

def rowS (n : Nat) (V : Nat → Nat → List UInt8) (i : Nat) : List Value := (List.range n).map fun k => S (V i k)
/-- The table: n rows; row i is block G i, its k-th text V i k. -/
structure TabS (w : World) (base g0 n : Nat) (G : Nat → Nat) (V : Nat → Nat → List UInt8) : Prop where
  top : ∀ i, i < n → w.cell? ⟨g0, i, none⟩ = some (.slice (some ⟨G i, 0, none⟩) n n)
  row : ∀ i, i < n → Blk w (G i) 9 (rowS n V i)
  ne : ∀ i, i < n → G i ≠ g0
  inj : ∀ i j, i < n → j < n → G i = G j → i = j
  lo : ∀ i, i < n → base ≤ G i
section
variable {w w' : World} {base g0 n : Nat} {G : Nat → Nat} {V : Nat → Nat → List UInt8}
theorem TabS.rowc (h : TabS w base g0 n G V) {i k : Nat} (hi : i < n) (hk : k < n) : w.cell? ⟨G i, k, none⟩ = some (S (V i k)) ∧ w.frozen? ⟨G i, k, none⟩ = false := by
  refine ⟨?_, (h.row i hi).frozen k⟩
  rw [(h.row i hi).cell k]
  unfold rowS
  rw [List.getElem?_map, List.getElem?_range hk]
  rfl
theorem TabS.below (h : TabS w base g0 n G V) (hb : Below w.heap.size w w') : TabS w' base g0 n G V :=
  ⟨fun i hi => (hb.cell (p := ⟨g0, i, none⟩) (World.block_lt_of_cell? w _ (h.top i hi))).trans (h.top i hi), fun i hi => (h.row i hi).below hb (h.row i hi).lt, h.ne, h.inj, h.lo⟩
theorem TabS.congr (h : TabS w base g0 n G V) {V' : Nat → Nat → List UInt8} (hv : ∀ i k, i < n → k < n → V i k = V' i k) : TabS w base g0 n G V' :=
  ⟨h.top, fun i hi => by
    have := h.row i hi
    rwa [show rowS n V i = rowS n V' i from by
      unfold rowS
      refine List.map_congr_left fun k hk => ?_
      rw [List.mem_range] at hk
      rw [hv i k hi hk]] at this, h.ne, h.inj, h.lo⟩
theorem TabS.set_ (h : TabS w base g0 n G V) {i k : Nat} {v : List UInt8} (hi : i < n) (hk : k < n) :
    TabS (w.setCell ⟨G i, k, none⟩ (S v)) base g0 n G (fun i' k' => if i' = i ∧ k' = k then v else V i' k') := by
  refine ⟨fun j hj => ?_, fun j hj => ?_, h.ne, h.inj, h.lo⟩
  · exact (World.cell?_setCell_other _ _ _ _ (fun e => h.ne i hi (congrArg Addr.block e))).trans (h.top j hj)
  · by_cases hji : j = i
    · subst hji
      have := (h.row j hj).set_ k (S v)
      rwa [show (rowS n V j).set k (S v) = rowS n (fun i' k' => if i' = j ∧ k' = k then v else V i' k') j from by
        unfold rowS
        apply List.ext_getElem?
        intro q
        rw [List.getElem?_set, List.getElem?_map, List.getElem?_map]
        by_cases hq : k = q
        · subst hq
          simp [hk]
        · rw [if_neg hq]
          by_cases hql : q < n
          · rw [List.getElem?_range hql]
            simp [show ¬ q = k from fun e => hq e.symm]
          · rw [List.getElem?_eq_none (by simpa using hql)]
            rfl] at this
    · have := (h.row j hj).far (p := ⟨G i, k, none⟩) (fun e => hji (h.inj j i hj hi e)) (S v)
      rwa [show rowS n V j = rowS n (fun i' k' => if i' = i ∧ k' = k then v else V i' k') j from by
        unfold rowS
        refine List.map_congr_left fun q _ => ?_
        simp [hji]] at this
end
/-- append, with the word of what it turns. -/
theorem wpList_append1g {P : Program} {w : World} {ops : Array Oper} {rest : List Oper} {o : Oper} {a : Act} {Q : Exit → Act → World → Prop} (hgd : o.guard = none) (s x : Operand) (t : TypeId)
    (ho : o.op = .call { callee := .builtin .append, args := #[s, x], argTypes := #[t, t] }) (e : TypeId) (i : TypeInfo) (z : Value) (ht : P.underlying t = some (.slice e)) (hi : P.info? e = some i) (hz : i.zero = some z)
    (hsize : i.size = 1) (hby : i.bytes ≤ 64) (hzs : z.cells.size = 1) (base : Nat) (v : Value) (l : List Value) (u : Value) (hu : u.oneCell' = true) (hs : a.eval s = v)
    (hx : a.eval x = .slice (some ⟨w.heap.size, 0, none⟩) 1 1) (hown : w.ownsRow base e 1 v l.length l) (hlen : l.length ≤ 1000000) (hbase : base ≤ w.heap.size)
    (h : ∀ v' w', w'.ownsRow base e 1 v' (l ++ [u]).length (l ++ [u]) → (w.alloc (.cells #[u] e)).grownBy w' v.ownBlock → wpList P ops Q rest (a.put o.dst v') w') :
    wpList P ops Q (o :: rest) a (w.alloc (.cells #[u] e)) := by
  refine wpList_append_own (P := P) (w.alloc (.cells #[u] e)) hgd s x t ho base e i z 1 i.bytes ht hi hz hsize rfl hzs (by omega) v l.length l hs (hown.alloc _) ⟨w.heap.size, 0, none⟩ 1 1 [u] hx rfl ?_ ?_ ?_ ?_ ?_ ?_
  · intro j u' hj
    match j, hj with
    | 0, hj =>
      have : u = u' := by simpa using hj
      subst this
      simp [Addr.add, World.cell?_alloc_new]
  · intro u' hu'; simp at hu'; subst hu'; exact hu
  · simp only [maxLen]; omega
  · have h1 : (l.length + 1) * i.bytes ≤ 1000001 * 64 := Nat.mul_le_mul (by omega) hby
    omega
  · simp; omega
  · intro v' w' h1 h2 _
    exact h v' w' (by simpa using h1) h2
/-- The rows made so far. -/
def topS (n i : Nat) (G : Nat → Nat) : List Value := (List.range i).map fun j => .slice (some ⟨G j, 0, none⟩) n n
structure Rows0 (w : World) (base n i : Nat) (G : Nat → Nat) (v : Value) : Prop where
  own : w.ownsRow base 44 1 v i (topS n i G)
  row : ∀ j, j < i → Blk w (G j) 9 (List.replicate n (.string ByteArray.empty))
  lo : ∀ j, j < i → base ≤ G j
  inj : ∀ j k, j < i → k < i → G j = G k → j = k
theorem own_typ {w : World} {base e size n : Nat} {v : Value} {xs : List Value} (h : w.ownsRow base e size v n xs) {k : Nat} (hk : v.ownBlock = some k) : ∃ cs fz, w.heap[k]? = some (.cells cs e fz) := by
  rcases h.2 with ⟨rfl, _⟩ | ⟨g, cap, cur, rfl, _, hg, _⟩
  · cases hk
  · cases hk; exact ⟨cur, (0, 0), hg⟩
theorem Rows0.next {w w' : World} {base n i : Nat} {G : Nat → Nat} {v v' : Value} (h : Rows0 w base n i G v) (hb : base ≤ w.heap.size)
    (ho : w'.ownsRow base 44 1 v' (i + 1) (topS n i G ++ [.slice (some ⟨w.heap.size, 0, none⟩) n n]))
    (hg : ((w.alloc (.cells (List.replicate n (Value.string ByteArray.empty)).toArray 9)).alloc (.cells #[.slice (some ⟨w.heap.size, 0, none⟩) n n] 44)).grownBy w' v.ownBlock) :
    Rows0 w' base n (i + 1) (fun j => if j = i then w.heap.size else G j) v' := by
  have htop : topS n (i + 1) (fun j => if j = i then w.heap.size else G j) = topS n i G ++ [.slice (some ⟨w.heap.size, 0, none⟩) n n] := by
    unfold topS
    rw [List.range_succ, List.map_append]
    congr 1
    · refine List.map_congr_left fun j hj => ?_
      rw [List.mem_range] at hj
      simp [show ¬ j = i by omega]
    · simp
  have hlt : ∀ k, v.ownBlock = some k → k < w.heap.size := fun k hk => (h.own.lt k hk).2
  refine ⟨by rw [htop]; exact ho, fun j hj => ?_, fun j hj => ?_, fun j k hj hk e => ?_⟩
  · by_cases hji : j = i
    · subst hji
      simp only [if_true]
      refine ((Blk.new w 9 (List.replicate n (.string ByteArray.empty))).alloc _).grown hg (fun e => ?_)
      have := hlt _ e.symm; omega
    · simp only [hji, if_false]
      refine (((h.row j (by omega)).alloc _).alloc _).grown hg (fun e => ?_)
      obtain ⟨cs, fz, h1⟩ := own_typ h.own e.symm
      have h2 := h.row j (by omega)
      unfold Blk at h2
      rw [h1] at h2
      injection h2 with h2
      injection h2 with _ h3 _
      exact absurd h3 (by decide)
  · by_cases hji : j = i
    · simp only [hji, if_true]; exact hb
    · simp only [hji, if_false]; exact h.lo j (by omega)
  · by_cases hji : j = i
    · by_cases hki : k = i
      · omega
      · simp only [hji, if_true, hki, if_false] at e
        have := (h.row k (by omega)).lt
        omega
    · by_cases hki : k = i
      · simp only [hji, if_false, hki, if_true] at e
        have := (h.row j (by omega)).lt
        omega
      · simp only [hji, if_false, hki] at e
        exact h.inj j k (by omega) (by omega) e
theorem Rows0.tab {w : World} {base n : Nat} {G : Nat → Nat} {v : Value} (h : Rows0 w base n n G v) (hn : 0 < n) : ∃ g0 cap, v = .slice (some ⟨g0, 0, none⟩) n cap ∧ TabS w base g0 n G (fun _ _ => []) := by
  rcases h.own.2 with ⟨_, h0⟩ | ⟨g, cap, cur, rfl, hgb, hg, hc, _⟩
  · omega
  · refine ⟨g, cap, rfl, fun i hi => ?_, fun i hi => ?_, fun i hi e => ?_, h.inj, h.lo⟩
    · have := h.own.cells (g := g) rfl i (.slice (some ⟨G i, 0, none⟩) n n) (by unfold topS; rw [List.getElem?_map, List.getElem?_range hi]; rfl)
      rw [Addr.add_lit, Nat.zero_add] at this
      exact this
    · have := h.row i hi
      rwa [show List.replicate n (Value.string ByteArray.empty) = rowS n (fun _ _ => []) i from by
        unfold rowS
        rw [List.map_const', List.length_range]; rfl] at this
    · have h2 := h.row i hi
      unfold Blk at h2
      rw [e, hg] at h2
      injection h2 with h2
      injection h2 with _ h3 _
      exact absurd h3 (by decide)

/-- What lies in the table: all shorter parts, of the parts so long those ahead of i0, and acc at i0. -/
def Vn (L : List Ru) (s : List UInt8) (n k i0 : Nat) (acc : List UInt8) (i k' : Nat) : List UInt8 :=
  if i + k' < n ∧ (k' < k ∨ (k' = k ∧ i < i0)) then nms L (cut s i (k' + 1)) else if k' = k ∧ i = i0 then acc else []
theorem Vn_init (L : List Ru) (s : List UInt8) (n i k' : Nat) : [] = Vn L s n 0 0 [] i k' := by
  unfold Vn
  rw [if_neg (by omega)]
  split <;> rfl
theorem Vn_at (L : List Ru) (s : List UInt8) (n k i : Nat) (acc : List UInt8) : Vn L s n k i acc i k = acc := by
  unfold Vn
  rw [if_neg (by omega), if_pos ⟨rfl, rfl⟩]
theorem Vn_lt (L : List Ru) (s : List UInt8) (n k i0 : Nat) (acc : List UInt8) (i k' : Nat) (h1 : k' < k) (h2 : i + k' < n) : Vn L s n k i0 acc i k' = nms L (cut s i (k' + 1)) := by
  unfold Vn
  rw [if_pos ⟨h2, .inl h1⟩]
theorem Vn_set (L : List Ru) (s : List UInt8) (n k i0 : Nat) (acc acc' : List UInt8) (i k' : Nat) : (if i = i0 ∧ k' = k then acc' else Vn L s n k i0 acc i k') = Vn L s n k i0 acc' i k' := by
  unfold Vn
  by_cases h : i = i0 ∧ k' = k
  · obtain ⟨rfl, rfl⟩ := h
    rw [if_pos ⟨rfl, rfl⟩, if_neg (by omega), if_pos ⟨rfl, rfl⟩]
  · rw [if_neg h]
    by_cases h1 : i + k' < n ∧ (k' < k ∨ (k' = k ∧ i < i0))
    · rw [if_pos h1, if_pos h1]
    · rw [if_neg h1, if_neg h1, if_neg (fun e => h ⟨e.2, e.1⟩), if_neg (fun e => h ⟨e.2, e.1⟩)]
theorem Vn_next (L : List Ru) (s : List UInt8) (n k i0 : Nat) (h : i0 + k < n) (i k' : Nat) : Vn L s n k i0 (nms L (cut s i0 (k + 1))) i k' = Vn L s n k (i0 + 1) [] i k' := by
  unfold Vn
  by_cases h1 : i + k' < n ∧ (k' < k ∨ (k' = k ∧ i < i0))
  · rw [if_pos h1, if_pos (by omega)]
  · rw [if_neg h1]
    by_cases h2 : k' = k ∧ i = i0
    · obtain ⟨rfl, rfl⟩ := h2
      rw [if_pos ⟨rfl, rfl⟩, if_pos (by omega)]
    · rw [if_neg h2, if_neg (by omega)]
      split <;> rfl
theorem Vn_longer (L : List Ru) (s : List UInt8) (n k i0 : Nat) (h : n ≤ i0 + k) (i k' : Nat) : Vn L s n k i0 [] i k' = Vn L s n (k + 1) 0 [] i k' := by
  unfold Vn
  by_cases h1 : i + k' < n ∧ (k' < k ∨ (k' = k ∧ i < i0))
  · rw [if_pos h1, if_pos (by omega)]
  · rw [if_neg h1, ite_self, if_neg (by omega), ite_self]
end Go.Proofs.YtlbiklhndcamhaaDoor
