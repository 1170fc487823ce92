/-
  Slices of whatever elements (of 'size' cells each) as lists: to be read, wherever they lie; of the call's own; what an append makes of them.
-/
import Derived.Test.YtpfinkdpaomliaaGreatInts
import Derived.Test.YtpfinkdpaomliaaGreatMemSrc
namespace Go.Proofs.YtpfinkdpaomliaaGreat
open Go.RowKit

/-- How an element lies in memory. -/
structure Enc {α : Type} (size : Nat) (enc : α → List Value) : Prop where
  pos : 0 < size
  len : ∀ x, (enc x).length = size
  one : ∀ x, ∀ u ∈ enc x, u.oneCell' = true

def cellsF {α : Type} (size : Nat) (enc : α → List Value) (d : α) (l : List α) : Nat → Value := fun j => (enc (l.getD (j / size) d)).getD (j % size) undef

section
variable {α : Type} {size : Nat} {enc : α → List Value} {d : α} {l : List α}
theorem cellsF_at (hs : 0 < size) (k j : Nat) (hj : j < size) : cellsF size enc d l (k * size + j) = (enc (l.getD k d)).getD j undef := by
  unfold cellsF
  have e1 : (k * size + j) / size = k := by rw [Nat.mul_comm, Nat.mul_add_div hs, Nat.div_eq_of_lt hj, Nat.add_zero]
  have e2 : (k * size + j) % size = j := by rw [Nat.mul_comm, Nat.mul_add_mod, Nat.mod_eq_of_lt hj]
  rw [e1, e2]
theorem split_at (hs : 0 < size) (j : Nat) : ∃ k i, i < size ∧ j = k * size + i := ⟨j / size, j % size, Nat.mod_lt _ hs, by rw [Nat.mul_comm]; exact (Nat.div_add_mod _ _).symm⟩
theorem flat_at (he : Enc size enc) (d : α) : ∀ (l : List α) (k i : Nat), i < size → k < l.length → (l.flatMap enc)[k * size + i]? = some ((enc (l.getD k d)).getD i undef)
  | [], k, i, _, hk => absurd hk (by simp)
  | x :: l, 0, i, hi, _ => by
    rw [List.flatMap_cons, Nat.zero_mul, Nat.zero_add, List.getElem?_append_left (by rw [he.len]; exact hi)]
    rw [List.getElem?_eq_getElem (by rw [he.len]; exact hi)]
    simp [List.getD_eq_getElem?_getD, he.len, hi]
  | x :: l, k + 1, i, hi, hk => by
    rw [List.flatMap_cons, List.getElem?_append_right (by rw [he.len, Nat.add_mul]; omega), he.len, show (k + 1) * size + i - size = k * size + i by rw [Nat.add_mul]; omega, flat_at he d l k i hi (by simpa using hk)]
    simp
theorem flat_len (he : Enc size enc) : ∀ l : List α, (l.flatMap enc).length = l.length * size
  | [] => by simp
  | x :: l => by rw [List.flatMap_cons, List.length_append, he.len, flat_len he l, List.length_cons, Nat.add_mul]; omega
theorem cellsF_snoc (he : Enc size enc) (d : α) (l : List α) (x : α) (n : Nat) (hn : l.length = n) (j : Nat) (hj : j < (n + 1) * size) :
    (if j < n * size then cellsF size enc d l j else (enc x).getD (j - n * size) undef) = cellsF size enc d (l ++ [x]) j := by
  obtain ⟨k, i, hi, rfl⟩ := split_at he.pos j
  rw [cellsF_at he.pos _ _ hi, cellsF_at he.pos _ _ hi]
  have hk : k < n + 1 := by
    rcases Nat.lt_or_ge k (n + 1) with h | h
    · exact h
    · have := Nat.mul_le_mul_right size h; omega
  by_cases hkn : k < n
  · have : k * size + i < n * size := by
      have := Nat.mul_le_mul_right size (show k + 1 ≤ n from hkn)
      rw [Nat.add_mul] at this
      omega
    rw [if_pos this, List.getD_eq_getElem?_getD, List.getD_eq_getElem?_getD, List.getD_eq_getElem?_getD, List.getD_eq_getElem?_getD, List.getElem?_append_left (by omega)]
  · obtain rfl : k = n := by omega
    rw [if_neg (by omega), show k * size + i - k * size = i by omega, show (l ++ [x]).getD k d = (l ++ [x])[k]?.getD d from List.getD_eq_getElem?_getD, List.getElem?_append_right (by omega), hn, Nat.sub_self]
    rfl
end

/-- It reads as a list. -/
structure RdL {α : Type} (size : Nat) (enc : α → List Value) (d : α) (w : World) (ao : Option Addr) (n : Nat) (l : List α) : Prop where
  rd : Rd w size ao n (cellsF size enc d l)
  len : l.length = n
/-- A slice of the call's own that reads as a list: it lies in blocks from B on. -/
structure OwnL {α : Type} (size : Nat) (enc : α → List Value) (d : α) (e : TypeId) (B : Nat) (w : World) (ao : Option Addr) (n cap : Nat) (l : List α) : Prop where
  sl : Sl w e size ao n cap (cellsF size enc d l)
  len : l.length = n
  row : ∀ g, rowOf ao cap = some g → B ≤ g

section
variable {α : Type} {size : Nat} {enc : α → List Value} {d : α} {e : TypeId} {B n cap : Nat} {w w' w1 : World} {ao ao' : Option Addr} {l : List α}
theorem RdL.below (h : RdL size enc d w ao n l) (hb : Below w.heap.size w w') : RdL size enc d w' ao n l := ⟨h.rd.below' hb, h.len⟩
theorem RdL.belowAt (h : RdL size enc d w ao n l) (hb : Below B w w') (hB : w.heap.size ≤ B) : RdL size enc d w' ao n l := ⟨h.rd.below hb hB, h.len⟩
theorem RdL.some_ (h : RdL size enc d w ao n l) (hn : 0 < n) : ∃ g off, ao = some ⟨g, off, none⟩ ∧ g < w.heap.size := by
  obtain ⟨g, off, e, hg, _⟩ := h.rd.some_ hn
  exact ⟨g, off, e, hg⟩
theorem RdL.nil (w : World) (ao : Option Addr) : RdL size enc d w ao 0 [] := ⟨Rd.nil _ _ _ _, rfl⟩
theorem RdL.cell (hs : 0 < size) (h : RdL size enc d w ao n l) {k : Nat} (hk : k < n) :
    ∃ g off, ao = some ⟨g, off, none⟩ ∧ g < w.heap.size ∧ ∀ j, j < size → w.cell? ⟨g, off + (k * size + j), none⟩ = some ((enc (l.getD k d)).getD j undef) := by
  obtain ⟨g, off, e, hg, hc⟩ := h.rd.some_ (by omega)
  refine ⟨g, off, e, hg, fun j hj => ?_⟩
  rw [hc (k * size + j) (by have := Nat.mul_le_mul_right size (show k + 1 ≤ n from hk); rw [Nat.add_mul] at this; omega), cellsF_at hs _ _ hj]
theorem OwnL.rd (h : OwnL size enc d e B w ao n cap l) : RdL size enc d w ao n l := ⟨h.sl.rd, h.len⟩
theorem OwnL.below (h : OwnL size enc d e B w ao n cap l) (hb : Below w.heap.size w w') : OwnL size enc d e B w' ao n cap l := ⟨h.sl.below' hb, h.len, h.row⟩
theorem OwnL.mono (h : OwnL size enc d e B w ao n cap l) {B' : Nat} (hB : B' ≤ B) : OwnL size enc d e B' w ao n cap l := ⟨h.sl, h.len, fun g hg => Nat.le_trans hB (h.row g hg)⟩
theorem OwnL.alloc (h : OwnL size enc d e B w ao n cap l) (o : Obj) : OwnL size enc d e B (w.alloc o) ao n cap l := ⟨h.sl.alloc o, h.len, h.row⟩
theorem OwnL.drew (h : OwnL size enc d e B w ao n cap l) : OwnL size enc d e B w.drew ao n cap l := ⟨h.sl.drew, h.len, h.row⟩
theorem OwnL.drewN (h : OwnL size enc d e B w ao n cap l) (k : Nat) : OwnL size enc d e B (w.drewN k) ao n cap l := ⟨h.sl.drewN k, h.len, h.row⟩
theorem OwnL.grown {row : Option Nat} (h : OwnL size enc d e B w ao n cap l) (hb : w.grownBy w' row) (hr : ∀ g, rowOf ao cap = some g → some g ≠ row) : OwnL size enc d e B w' ao n cap l := ⟨h.sl.grown hb hr, h.len, h.row⟩
theorem OwnL.nil (w : World) (e : TypeId) (B : Nat) (ao : Option Addr) : OwnL size enc d e B w ao 0 0 [] := ⟨Sl.nil _ _ _ _ _, rfl, fun g hg => by simp [rowOf] at hg⟩
theorem rowOf_new {b cap g : Nat} (h : rowOf (some (⟨b, 0, none⟩ : Addr)) cap = some g) : g = b := by
  unfold rowOf at h
  split at h
  · cases h
  · simp at h; exact h.symm
/-- A row that has just been laid, all its elements alike. -/
theorem OwnL.some_ (h : OwnL size enc d e B w ao n cap l) (hn : 0 < n) : ∃ g, ao = some ⟨g, 0, none⟩ ∧ rowOf ao cap = some g ∧ g < w.heap.size ∧ B ≤ g := by
  obtain ⟨g, h1, h2, h3⟩ := h.sl.some_ (by have := h.sl.le; omega)
  exact ⟨g, h1, h2, h3, h.row g h2⟩
/-- One element more. -/
theorem ownL_app (he : Enc size enc) (h : OwnL size enc d e B w ao n cap l) (hB : B ≤ w.heap.size) (x : α) {n' cap' : Nat} (hn : n' = n + 1) {news : List Value} (hx : news = enc x)
    (ha : Appended w w1 e size ao n cap ao' n' cap' (fun j => if j < n * size then cellsF size enc d l j else news[j - n * size]?.getD undef)) :
    OwnL size enc d e B w1 ao' n' cap' (l ++ [x]) := by
  subst hn hx
  refine ⟨ha.sl.congr fun j hj => ?_, by rw [List.length_append, h.len]; rfl, ?_⟩
  · have := cellsF_snoc he d l x n h.len j hj
    rw [List.getD_eq_getElem?_getD] at this
    exact this
  · intro g hg
    rcases ha.way with ⟨rfl, rfl, _, _⟩ | ⟨_, rfl, _, _⟩
    · exact h.row g hg
    · have := rowOf_new hg; omega
/-- A list more, onto none. -/
theorem ownL_all (he : Enc size enc) {f : Nat → Value} (_h : Sl w e size ao 0 cap f) (hr : ∀ g, rowOf ao cap = some g → B ≤ g) (hB : B ≤ w.heap.size) (l : List α) {n' cap' : Nat} (hn : n' = l.length) {news : List Value} (hx : news = l.flatMap enc)
    (ha : Appended w w1 e size ao 0 cap ao' n' cap' (fun j => if j < 0 * size then f j else news[j - 0 * size]?.getD undef)) :
    OwnL size enc d e B w1 ao' n' cap' l := by
  subst hn hx
  refine ⟨ha.sl.congr fun j hj => ?_, rfl, ?_⟩
  · obtain ⟨k, i, hi, rfl⟩ := split_at he.pos j
    have hk : k < l.length := by
      rcases Nat.lt_or_ge k l.length with h | h
      · exact h
      · have := Nat.mul_le_mul_right size h; omega
    rw [if_neg (by omega), Nat.zero_mul, Nat.sub_zero, flat_at he d l k i hi hk, cellsF_at he.pos _ _ hi]
    rfl
  · intro g hg
    rcases ha.way with ⟨rfl, rfl, _, _⟩ | ⟨_, rfl, _, _⟩
    · exact hr g hg
    · have := rowOf_new hg; omega
theorem ownL_grown {a : World} {B' m cap' : Nat} {f : Nat → Value} (h : OwnL size enc d e B w ao n cap l) (hBB : B' ≤ B) (hB : B' ≤ w.heap.size) (hb : Below B' a w)
    (ha : Appended w w1 e size ao n cap ao' m cap' f) : Below B' a w1 :=
  hb.grown ha.grown hB fun g hg => Nat.le_trans hBB (h.row g hg)
/-- As the source of an append. -/
theorem rdL_src (he : Enc size enc) {P : Program} {tx e' : TypeId} (hk : P.underlying tx = some (.slice e')) (h : RdL size enc d w ao n l) (c : Nat) : Src P size tx (.slice ao n c) n (l.flatMap enc) w := by
  have hl : (l.flatMap enc).length = n * size := by rw [flat_len he, h.len]
  have h1 : ∀ u ∈ l.flatMap enc, u.oneCell' = true := by
    intro u hu
    obtain ⟨x, _, hx⟩ := List.mem_flatMap.1 hu
    exact he.one x u hx
  by_cases h0 : n = 0
  · have hx : l = [] := List.eq_nil_of_length_eq_zero (by rw [h.len, h0])
    subst hx
    subst h0
    cases ao with
    | none => exact Src.ofNil w hk c
    | some a => exact Src.ofSlice w hk a 0 c [] (by simp) (by intro j u hu; simp at hu) (by intro u hu; simp at hu)
  · obtain ⟨g, off, rfl, hg, hcl⟩ := h.rd.some_ (by omega)
    refine Src.ofSlice w hk ⟨g, off, none⟩ n c _ hl (fun j u hj => ?_) h1
    have hj' : j < n * size := by have := (List.getElem?_eq_some_iff.1 hj).1; rw [hl] at this; omega
    have hadd : (⟨g, off, none⟩ : Addr).add j = ⟨g, off + j, none⟩ := by unfold Addr.add; split <;> simp_all
    rw [hadd, hcl j hj']
    obtain ⟨k, i, hi, rfl⟩ := split_at he.pos j
    have hk : k < l.length := by
      rcases Nat.lt_or_ge k l.length with h' | h'
      · exact h'
      · have := Nat.mul_le_mul_right size h'; have := h.len; subst this; omega
    rw [flat_at he d l k i hi hk] at hj
    rw [cellsF_at he.pos _ _ hi]
    exact hj
/-- A block of four cells (a struct in memory): what the walk asks of it. -/
theorem four_at {w : World} {b : Nat} {v0 v1 v2 v3 : Value} {t : TypeId} (h : w.heap[b]? = some (.cells #[v0, v1, v2, v3] t (0, 0))) :
    w.cell? ⟨b, 0, none⟩ = some v0 ∧ w.cell? ⟨b, 1, none⟩ = some v1 ∧ w.cell? ⟨b, 2, none⟩ = some v2 ∧ w.cell? ⟨b, 3, none⟩ = some v3 ∧
      w.frozen? ⟨b, 0, none⟩ = false ∧ w.frozen? ⟨b, 1, none⟩ = false ∧ w.frozen? ⟨b, 2, none⟩ = false ∧ w.frozen? ⟨b, 3, none⟩ = false := by
  simp [World.cell?, World.frozen?, h]
theorem below_set4 {B b : Nat} {a w : World} (h : Below B a w) (hb : B ≤ b) (v0 v1 v2 v3 : Value) :
    Below B a ((((w.setCell ⟨b, 0, none⟩ v0).setCell ⟨b, 1, none⟩ v1).setCell ⟨b, 2, none⟩ v2).setCell ⟨b, 3, none⟩ v3) :=
  (((h.setCell (p := ⟨b, 0, none⟩) hb v0).setCell (p := ⟨b, 1, none⟩) hb v1).setCell (p := ⟨b, 2, none⟩) hb v2).setCell (p := ⟨b, 3, none⟩) hb v3
theorem OwnL.set4 {α : Type} {size : Nat} {enc : α → List Value} {d : α} {e : TypeId} {B n cap : Nat} {w : World} {ao : Option Addr} {l : List α} (h : OwnL size enc d e B w ao n cap l) {b : Nat} (hb : b < B) (v0 v1 v2 v3 : Value) :
    OwnL size enc d e B ((((w.setCell ⟨b, 0, none⟩ v0).setCell ⟨b, 1, none⟩ v1).setCell ⟨b, 2, none⟩ v2).setCell ⟨b, 3, none⟩ v3) ao n cap l := by
  have key : ∀ g, rowOf ao cap = some g → g ≠ b := fun g hg e => by have := h.row g hg; omega
  exact ⟨(((h.sl.far (p := ⟨b, 0, none⟩) key v0).far (p := ⟨b, 1, none⟩) key v1).far (p := ⟨b, 2, none⟩) key v2).far (p := ⟨b, 3, none⟩) key v3, h.len, h.row⟩
theorem OwnI.set4 {B n cap : Nat} {w : World} {ao : Option Addr} {l : List Int} (h : OwnI B w ao n cap l) {b : Nat} (hb : b < B) (v0 v1 v2 v3 : Value) :
    OwnI B ((((w.setCell ⟨b, 0, none⟩ v0).setCell ⟨b, 1, none⟩ v1).setCell ⟨b, 2, none⟩ v2).setCell ⟨b, 3, none⟩ v3) ao n cap l := by
  have key : ∀ g, rowOf ao cap = some g → g ≠ b := fun g hg e => by have := h.row g hg; omega
  exact ⟨(((h.sl.far (p := ⟨b, 0, none⟩) key v0).far (p := ⟨b, 1, none⟩) key v1).far (p := ⟨b, 2, none⟩) key v2).far (p := ⟨b, 3, none⟩) key v3, h.len, h.row⟩
/-- The cells of a block that has just been laid. -/
theorem news_at (w : World) (x : List Value) (t : TypeId) (m : Nat) (hm : m = w.heap.size) : ∀ j u, x[j]? = some u → (w.alloc (.cells x.toArray t)).cell? ((⟨m, 0, none⟩ : Addr).add j) = some u := by
  subst hm
  intro j u hj
  have hadd : (⟨w.heap.size, 0, none⟩ : Addr).add j = ⟨w.heap.size, j, none⟩ := by unfold Addr.add; split <;> simp_all
  rw [hadd]
  unfold World.cell?
  rw [heap_alloc_new]
  simpa using hj
end
end Go.Proofs.YtpfinkdpaomliaaGreat
