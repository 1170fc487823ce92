/-
  Plain memory lemmas, no program in sight: 'Sl': what a slice of the call's own holds, cell by cell; what a store, a new block, an append makes of it.
-/
import Derived.WalkKit
import Derived.Deep.Draws
import Derived.Deep.OwnRows
namespace Go.Proofs.YtpfinkdpaomliaaGreat
open Go.RowKit

/-- A slice of n elements (of 'size' cells each): it has no room at all, or it begins a row of its own of 'cap' elements, whose first cells are 'f'. -/
def Sl (w : World) (e : TypeId) (size : Nat) (ao : Option Addr) (n cap : Nat) (f : Nat → Value) : Prop :=
  n ≤ cap ∧ cap ≤ maxLen ∧ (cap = 0 ∨ ∃ g cur, ao = some ⟨g, 0, none⟩ ∧ w.heap[g]? = some (.cells cur e (0, 0)) ∧ cur.size = cap * size ∧ ∀ i, i < n * size → cur[i]? = some (f i))

/-- The block in which a slice lies, where it has room. -/
def rowOf (ao : Option Addr) (cap : Nat) : Option Nat := if cap = 0 then none else ao.map (·.block)

section
variable {w w' : World} {e : TypeId} {size n cap : Nat} {ao : Option Addr} {f f' : Nat → Value}

theorem Sl.nil (w : World) (e : TypeId) (size : Nat) (ao : Option Addr) (f : Nat → Value) : Sl w e size ao 0 0 f := ⟨Nat.le_refl _, Nat.zero_le _, .inl rfl⟩

theorem Sl.le (h : Sl w e size ao n cap f) : n ≤ cap := h.1
theorem Sl.max (h : Sl w e size ao n cap f) : n ≤ maxLen := Nat.le_trans h.1 h.2.1

theorem Sl.some_ (h : Sl w e size ao n cap f) (hc : 0 < cap) : ∃ g, ao = some ⟨g, 0, none⟩ ∧ rowOf ao cap = some g ∧ g < w.heap.size := by
  rcases h.2.2 with h0 | ⟨g, cur, rfl, hg, _⟩
  · omega
  · exact ⟨g, rfl, by simp [rowOf]; omega, (Array.getElem?_eq_some_iff.1 hg).1⟩

theorem Sl.row_lt (h : Sl w e size ao n cap f) : ∀ g, rowOf ao cap = some g → g < w.heap.size := by
  intro g hg
  unfold rowOf at hg
  split at hg
  · cases hg
  · rename_i hc
    obtain ⟨g', rfl, _, hlt⟩ := h.some_ (by omega)
    simp at hg
    omega

theorem Sl.cell {g : Nat} (h : Sl w e size (some ⟨g, 0, none⟩) n cap f) {i : Nat} (hi : i < n * size) : w.cell? ⟨g, i, none⟩ = some (f i) := by
  rcases h.2.2 with h0 | ⟨g', cur, hg', hg, _, hc⟩
  · have : n = 0 := by have := h.1; omega
    subst this; simp at hi
  · cases hg'
    simp [World.cell?, hg, hc i hi]

theorem Sl.frozen {g : Nat} (h : Sl w e size (some ⟨g, 0, none⟩) n cap f) (hc : 0 < cap) (i : Nat) : w.frozen? ⟨g, i, none⟩ = false := by
  rcases h.2.2 with h0 | ⟨g', cur, hg', hg, _, _⟩
  · omega
  · cases hg'
    simp [World.frozen?, hg]

theorem Sl.congr (h : Sl w e size ao n cap f) (hf : ∀ i, i < n * size → f i = f' i) : Sl w e size ao n cap f' := by
  refine ⟨h.1, h.2.1, ?_⟩
  rcases h.2.2 with h0 | ⟨g, cur, hg', hg, hs, hc⟩
  · exact .inl h0
  · exact .inr ⟨g, cur, hg', hg, hs, fun i hi => by rw [hc i hi, hf i hi]⟩

theorem Sl.shorter {m : Nat} (h : Sl w e size ao n cap f) (hm : m ≤ n) : Sl w e size ao m cap f := by
  refine ⟨Nat.le_trans hm h.1, h.2.1, ?_⟩
  rcases h.2.2 with h0 | ⟨g, cur, hg', hg, hs, hc⟩
  · exact .inl h0
  · exact .inr ⟨g, cur, hg', hg, hs, fun i hi => hc i (Nat.lt_of_lt_of_le hi (Nat.mul_le_mul_right _ hm))⟩

/-- What leaves the slice's own block as it was leaves the slice as it was. -/
theorem Sl.keep (h : Sl w e size ao n cap f) (hk : ∀ g, rowOf ao cap = some g → w'.heap[g]? = w.heap[g]?) : Sl w' e size ao n cap f := by
  refine ⟨h.1, h.2.1, ?_⟩
  rcases h.2.2 with h0 | ⟨g, cur, rfl, hg, hs, hc⟩
  · exact .inl h0
  · by_cases h0 : cap = 0
    · exact .inl h0
    · exact .inr ⟨g, cur, rfl, (hk g (by simp [rowOf, h0])).trans hg, hs, hc⟩

theorem Sl.below {B : Nat} (h : Sl w e size ao n cap f) (hb : Below B w w') (hr : ∀ g, rowOf ao cap = some g → g < B) : Sl w' e size ao n cap f :=
  h.keep fun g hg => hb.block g (hr g hg)

theorem Sl.below' (h : Sl w e size ao n cap f) (hb : Below w.heap.size w w') : Sl w' e size ao n cap f :=
  h.below hb h.row_lt

theorem Sl.alloc (h : Sl w e size ao n cap f) (o : Obj) : Sl (w.alloc o) e size ao n cap f :=
  h.keep fun g hg => Below.heap_alloc w o g (h.row_lt g hg)

theorem Sl.drew (h : Sl w e size ao n cap f) : Sl w.drew e size ao n cap f := h
theorem Sl.drewN (h : Sl w e size ao n cap f) (k : Nat) : Sl (w.drewN k) e size ao n cap f := h

theorem Sl.grown {row : Option Nat} (h : Sl w e size ao n cap f) (hb : w.grownBy w' row) (hr : ∀ g, rowOf ao cap = some g → some g ≠ row) : Sl w' e size ao n cap f :=
  h.keep fun g hg => hb.block g (h.row_lt g hg) (hr g hg)

theorem Sl.far (h : Sl w e size ao n cap f) {p : Addr} (hp : ∀ g, rowOf ao cap = some g → g ≠ p.block) (u : Value) : Sl (w.setCell p u) e size ao n cap f :=
  h.keep fun g hg => Below.heap_setCell w p u g (hp g hg)

/-- A store into it. -/
theorem Sl.set {g : Nat} (h : Sl w e size (some ⟨g, 0, none⟩) n cap f) {i : Nat} (u : Value) :
    Sl (w.setCell ⟨g, i, none⟩ u) e size (some ⟨g, 0, none⟩) n cap (fun j => if j = i then u else f j) := by
  refine ⟨h.1, h.2.1, ?_⟩
  rcases h.2.2 with h0 | ⟨g', cur, hg', hg, hs, hc⟩
  · exact .inl h0
  · cases hg'
    refine .inr ⟨g, cur.setIfInBounds i u, rfl, ?_, by simpa using hs, fun j hj => ?_⟩
    · simp [World.setCell, Array.getElem?_modify, hg]
    · have hjs : j < cur.size := (Array.getElem?_eq_some_iff.1 (hc j hj)).1
      rw [Array.getElem?_setIfInBounds]
      by_cases e : i = j
      · subst e; simp [hjs]
      · have e' : ¬ j = i := fun h => e h.symm
        simp [e, e', hc j hj]

/-- A row that has just been laid. -/
theorem Sl.new (w : World) (e : TypeId) (size n cap : Nat) (cur : Array Value) (f : Nat → Value) (hn : n ≤ cap) (hm : cap ≤ maxLen) (hs : cur.size = cap * size) (hc : ∀ i, i < n * size → cur[i]? = some (f i)) :
    Sl (w.alloc (.cells cur e)) e size (some ⟨w.heap.size, 0, none⟩) n cap f :=
  ⟨hn, hm, .inr ⟨_, cur, rfl, heap_alloc_new w _, hs, hc⟩⟩

theorem Sl.made (w : World) (e : TypeId) (z : Value) (n cap : Nat) (hn : n ≤ cap) (hm : cap ≤ maxLen) :
    Sl (w.alloc (.cells (madeCells #[z] cap) e)) e 1 (some ⟨w.heap.size, 0, none⟩) n cap (fun _ => z) :=
  Sl.new w e 1 n cap _ _ hn hm (by simp [size_madeCells]) (fun i hi => by
    have : i < cap := by omega
    simp [madeCells, this, Nat.mod_one])
end

theorem cell_one_at (w : World) (x : Value) (t : TypeId) (n : Nat) (hn : n = w.heap.size) : ∀ j u, [x][j]? = some u → (w.alloc (.cells #[x] t)).cell? ((⟨n, 0, none⟩ : Addr).add j) = some u := by
  subst hn
  intro j u hj
  match j, hj with
  | 0, hj =>
    simp at hj
    subst hj
    simp [Addr.add]

/-- What an append leaves: the row that was there, or a new one. -/
structure Appended (w w' : World) (e : TypeId) (size : Nat) (ao : Option Addr) (n cap : Nat) (ao' : Option Addr) (n' cap' : Nat) (f : Nat → Value) : Prop where
  sl : Sl w' e size ao' n' cap' f
  way : (ao' = ao ∧ cap' = cap ∧ w.grownBy w' (rowOf ao cap) ∧ w'.heap.size = w.heap.size) ∨ (cap < n' ∧ ao' = some ⟨w.heap.size, 0, none⟩ ∧ Below w.heap.size w w' ∧ w'.heap.size = w.heap.size + 1)

/-- append: of news cells that lie at an address. -/
theorem run_append_sl {P : Program} (w : World) (t ty e : TypeId) (i : TypeInfo) (z : Value) (size bytes : Nat) (ht : P.underlying t = some (.slice e)) (hi : P.info? e = some i) (hz : i.zero = some z)
    (hsize : i.size = size) (hby : i.bytes = bytes) (hzs : z.cells.size = size)
    {ao : Option Addr} {n cap : Nat} {f : Nat → Value} (h : Sl w e size ao n cap f)
    (a : Addr) (m c : Nat) (news : List Value) (hl : news.length = m * size) (hnews : ∀ j u, news[j]? = some u → w.cell? (a.add j) = some u) (h1 : ∀ u ∈ news, u.oneCell' = true)
    (h63 : n + m ≤ maxLen) (hbytes : (n + m) * bytes ≤ 140737488355328) :
    ∃ ao' cap' w', (Builtin.append_ #[t, t] ty #[.slice ao n cap, .slice (some a) m c]).run P w = .ok (.slice ao' (n + m) cap') w' ∧
      Appended w w' e size ao n cap ao' (n + m) cap' (fun j => if j < n * size then f j else news.getD (j - n * size) undef) := by
  subst hsize
  subst hby
  have hsmall : n + m ≤ 9223372036854775807 := by simp only [maxLen] at h63; omega
  have grown : ∀ (old : Nat) (xs : List Value), old < n + m → xs.length = n * i.size → (∀ j, j < n * i.size → xs[j]? = some (f j)) → cap < n + m →
      Appended w (w.drew.alloc (.cells (xs.toArray ++ news.toArray ++ Builtin.zeroCells z.cells (grownCap w (n + m) old e - (n + m))) e)) e i.size ao n cap
        (some ⟨w.heap.size, 0, none⟩) (n + m) (grownCap w (n + m) old e) (fun j => if j < n * i.size then f j else news.getD (j - n * i.size) undef) := by
    intro old xs ho hxl hx hcap
    have hge := grownCap_ge w (n + m) old e
    refine ⟨Sl.new w.drew e i.size (n + m) _ _ _ hge (grownCap_le_maxLen w (n + m) old e h63) ?_ ?_, .inr ⟨hcap, rfl, ?_, by simp⟩⟩
    · simp only [Array.size_append, List.size_toArray, size_zeroCells, hzs, hxl, hl, ← Nat.add_mul]
      congr 1
      omega
    · intro j hj
      rw [Nat.add_mul] at hj
      by_cases hjn : j < n * i.size
      · rw [if_pos hjn, Array.getElem?_append, if_pos (by simp [hxl]; omega), Array.getElem?_append, if_pos (by simpa [hxl] using hjn)]
        simpa using hx j hjn
      · rw [if_neg hjn, Array.getElem?_append, if_pos (by simp [hxl]; omega), Array.getElem?_append, if_neg (by simpa [hxl] using hjn)]
        simp only [List.getElem?_toArray, List.size_toArray, hxl]
        rw [List.getElem?_eq_getElem (by omega), List.getD_eq_getElem?_getD, List.getElem?_eq_getElem (by omega)]
        rfl
    · exact ((Below.refl _ _).drew).alloc (Nat.le_refl _) _
  by_cases hroom : n + m ≤ cap
  · rcases h.2.2 with h0 | ⟨g, cur, rfl, hg, hs, hc⟩
    · have hm0 : m = 0 := by omega
      have hn0 : n = 0 := by omega
      subst hm0; subst hn0; subst h0
      have hn : news = [] := List.eq_nil_of_length_eq_zero (by simpa using hl)
      subst hn
      refine ⟨ao, 0, w, ?_, ⟨Sl.nil _ _ _ _ _, .inl ⟨rfl, rfl, World.grownBy.refl _ _, rfl⟩⟩⟩
      cases ao <;> simp [Builtin.append_, run_underlying ht, sizeOf, typeInfo, hi, Builtin.lenOf, Builtin.firstCells, loadCells, loadCellsFrom, storeCells]
    · have hfit : n * i.size + news.length ≤ cur.size := by rw [hl, hs, ← Nat.add_mul]; exact Nat.mul_le_mul_right _ hroom
      have hr := run_append_room (P := P) w t ty e i ht hi g n cap cur hg a m c news hl hnews h1 hroom hfit
      have hpre : ∀ j, j < n * i.size → (cur.toList.take (n * i.size))[j]? = some (f j) := fun j hj => by
        rw [List.getElem?_take, if_pos hj]; simpa using hc j hj
      have hlen : (cur.toList.take (n * i.size)).length = n * i.size := by simp; omega
      by_cases hcap0 : cap = 0
      · have hm0 : m = 0 := by omega
        have hn0 : n = 0 := by omega
        subst hcap0 hm0 hn0
        have hn : news = [] := List.eq_nil_of_length_eq_zero (by simpa using hl)
        subst hn
        refine ⟨_, _, w, ?_, ⟨Sl.nil _ _ _ _ _, .inl ⟨rfl, rfl, World.grownBy.refl _ _, rfl⟩⟩⟩
        simp [Builtin.append_, run_underlying ht, sizeOf, typeInfo, hi, Builtin.lenOf, Builtin.firstCells, loadCells, loadCellsFrom, storeCells]
      refine ⟨_, _, _, hr, ⟨⟨hroom, h.2.1, .inr ⟨g, _, rfl, setRow_heap w g cur _ e _ hg, ?_, ?_⟩⟩, .inl ⟨rfl, rfl, ⟨rfl, rfl, rfl, by simp, fun k _ hk => setRow_other w g k _ (fun e => hk (by simp [rowOf, hcap0, e]))⟩, by simp⟩⟩⟩
      · simp only [List.size_toArray, List.length_append, List.length_take, List.length_drop, Array.length_toList]
        omega
      · intro j hj
        rw [Nat.add_mul] at hj
        simp only [List.getElem?_toArray]
        rw [List.append_assoc]
        by_cases hjn : j < n * i.size
        · rw [if_pos hjn, List.getElem?_append_left (by omega)]; exact hpre j hjn
        · rw [if_neg hjn, List.getElem?_append_right (by omega), hlen, List.getElem?_append_left (by omega), List.getElem?_eq_getElem (by omega), List.getD_eq_getElem?_getD, List.getElem?_eq_getElem (by omega)]
          rfl
  · rcases ao with _ | ad
    · have hcap0 : cap = 0 := by
        rcases h.2.2 with h0 | ⟨g, cur, hx, _⟩
        · exact h0
        · cases hx
      have hn0 : n = 0 := by have := h.1; omega
      subst hcap0 hn0
      have hr := run_append_nil (P := P) w t ty e i z ht hi hz a m c news hl hnews (by omega) (by omega) (by have hb := hbytes; simp only [Nat.zero_add] at hb; omega)
      have hgr := grown 0 [] (by omega) (by simp) (by intro j hj; simp at hj) (by omega)
      refine ⟨_, _, _, by simpa using hr, ?_⟩
      simpa using hgr
    · have hxs : ∃ xs : List Value, xs.length = n * i.size ∧ (∀ j, j < n * i.size → xs[j]? = some (f j)) ∧ ∀ j u, xs[j]? = some u → w.cell? (ad.add j) = some u := by
        rcases h.2.2 with h0 | ⟨g, cur, hx, hg, hs, hc⟩
        · have hn0 : n = 0 := by have := h.1; omega
          subst hn0
          exact ⟨[], by simp, by intro j hj; simp at hj, by intro j u hu; simp at hu⟩
        · cases hx
          have hle : n * i.size ≤ cur.size := by rw [hs]; exact Nat.mul_le_mul_right _ h.1
          refine ⟨cur.toList.take (n * i.size), by simp; omega, fun j hj => by rw [List.getElem?_take, if_pos hj]; simpa using hc j hj, fun j u hu => ?_⟩
          rw [List.getElem?_take] at hu
          split at hu
          · have hadd : (⟨g, 0, none⟩ : Addr).add j = ⟨g, j, none⟩ := by unfold Addr.add; split <;> simp_all
            rw [hadd, cell_of_row w g j cur e (0, 0) hg]
            simpa using hu
          · cases hu
      obtain ⟨xs, hxl, hx, holds⟩ := hxs
      have hr := run_append_grow (P := P) w t ty e i z ht hi hz ad n cap xs hxl holds a m c news hl hnews (by omega) (by omega) (growslice_fits (by omega) hbytes)
      exact ⟨_, _, _, hr, grown cap xs (by omega) hxl hx (by omega)⟩

/-- The same as a law of the walk. -/
theorem wpList_append_sl {P : Program} (w : World) {ops : Array Oper} {rest : List Oper} {o : Oper} {a : Act} {Q : Exit → Act → World → Prop} (hgd : o.guard = none) (s x : Operand) (t : TypeId)
    (ho : o.op = .call { callee := .builtin .append, args := #[s, x], argTypes := #[t, t] })
    (e : TypeId) (i : TypeInfo) (z : Value) (size bytes : Nat) (ht : P.underlying t = some (.slice e)) (hi : P.info? e = some i) (hz : i.zero = some z)
    (hsize : i.size = size) (hby : i.bytes = bytes) (hzs : z.cells.size = size)
    {ao : Option Addr} {n cap : Nat} {f : Nat → Value} (hs : a.eval s = .slice ao n cap) (h : Sl w e size ao n cap f)
    (ad : Addr) (m c : Nat) (news : List Value) (hx : a.eval x = .slice (some ad) m c) (hl : news.length = m * size) (hnews : ∀ j u, news[j]? = some u → w.cell? (ad.add j) = some u) (h1 : ∀ u ∈ news, u.oneCell' = true)
    (h63 : n + m ≤ maxLen) (hbytes : (n + m) * bytes ≤ 140737488355328)
    (hk : ∀ ao' cap' w', Appended w w' e size ao n cap ao' (n + m) cap' (fun j => if j < n * size then f j else news.getD (j - n * size) undef) → wpList P ops Q rest (a.put o.dst (.slice ao' (n + m) cap')) w') :
    wpList P ops Q (o :: rest) a w := by
  refine wpList_plain hgd fun K hK => ?_
  obtain ⟨ao', cap', w', hr, h2⟩ := run_append_sl (P := P) w t o.type e i z size bytes ht hi hz hsize hby hzs h ad m c news hl hnews h1 h63 hbytes
  unfold Oper.wp execOp
  simp only [ho, resolve, invoke, builtin, Sem.run_bind, Sem.run_pure, Result.andThen_ok, List.map_toArray, List.map_cons, List.map_nil, hs, hx, hr]
  exact hK _ _ (hk ao' cap' w' h2)

end Go.Proofs.YtpfinkdpaomliaaGreat
