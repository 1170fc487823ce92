/-
  Plain memory lemmas for 'flat..' of the package letterbagkit: rows of one element type, each in a block of its own, that are marked, extended and looked at.
-/
import Derived.Test.YtpfinkdpaomliaaGreatMem
import Derived.Maps.AppendAt
namespace Go.Proofs.YtpfinkdpaomliaaGreat
open Go.RowKit

theorem grownBy_setCell (w : World) (p : Addr) (u : Value) : w.grownBy (w.setCell p u) (some p.block) :=
  ⟨rfl, rfl, rfl, by simp, fun k _ hne => Below.heap_setCell w p u k (fun h => hne (by rw [h]))⟩
theorem grownBy_of_below {w w' : World} (h : Below w.heap.size w w') (row : Option Nat) : w.grownBy w' row := ⟨h.os, h.tape, h.output, h.size, fun i hi _ => h.block i hi⟩
theorem grownBy_drewN {w w' : World} {row : Option Nat} (h : w.grownBy w' row) (n : Nat) : w.grownBy (w'.drewN n) row := ⟨h.os, h.tape, h.output, h.size, h.block⟩
theorem grownBy_drew {w w' : World} {row : Option Nat} (h : w.grownBy w' row) : w.grownBy w'.drew row := ⟨h.os, h.tape, h.output, h.size, h.block⟩
theorem below_drewN {B : Nat} {a w : World} (h : Below B a w) (n : Nat) : Below B a (w.drewN n) := ⟨h.os, h.tape, h.output, h.size, h.block⟩
theorem Appended.grown {w w' : World} {e size n cap n' cap' : Nat} {ao ao' : Option Addr} {f : Nat → Value} (h : Appended w w' e size ao n cap ao' n' cap' f) : w.grownBy w' (rowOf ao cap) := by
  rcases h.way with ⟨_, _, h, _⟩ | ⟨_, _, h, _⟩
  · exact h
  · exact grownBy_of_below h _

/-- Of what was there nothing but blocks of 'B' has changed. -/
structure Only (B : Nat → Prop) (w w' : World) : Prop where
  os : w'.os = w.os
  tape : w'.tape = w.tape
  output : w'.output = w.output
  size : w.heap.size ≤ w'.heap.size
  block : ∀ k, k < w.heap.size → ¬ B k → w'.heap[k]? = w.heap[k]?

theorem Only.refl (B : Nat → Prop) (w : World) : Only B w w := ⟨rfl, rfl, rfl, Nat.le_refl _, fun _ _ _ => rfl⟩
theorem Only.grown {B : Nat → Prop} {a w w' : World} {row : Option Nat} (h : Only B a w) (hg : w.grownBy w' row) (hr : ∀ g, row = some g → B g) : Only B a w' :=
  ⟨hg.os.trans h.os, hg.tape.trans h.tape, hg.output.trans h.output, Nat.le_trans h.size hg.size, fun k hk hn => (hg.block k (Nat.lt_of_lt_of_le hk h.size) (fun e => hn (hr k e.symm))).trans (h.block k hk hn)⟩
theorem Only.fresh {B : Nat → Prop} {a w w' : World} (h : Only B a w) (_hB : ∀ g, a.heap.size ≤ g → B g) (hb : Below w.heap.size w w') : Only B a w' :=
  ⟨hb.os.trans h.os, hb.tape.trans h.tape, hb.output.trans h.output, Nat.le_trans h.size hb.size, fun k hk hn => (hb.block k (Nat.lt_of_lt_of_le hk h.size)).trans (h.block k hk hn)⟩
theorem Only.trans {B : Nat → Prop} {a b c : World} (h : Only B a b) (k : Only B b c) : Only B a c :=
  ⟨k.os.trans h.os, k.tape.trans h.tape, k.output.trans h.output, Nat.le_trans h.size k.size, fun i hi hn => (k.block i (Nat.lt_of_lt_of_le hi h.size) hn).trans (h.block i hi hn)⟩
theorem Only.below {B : Nat → Prop} {b : Nat} {w w' : World} (h : Only B w w') (hb : b ≤ w.heap.size) (hB : ∀ g, B g → b ≤ g) : Below b w w' :=
  ⟨h.os, h.tape, h.output, h.size, fun k hk => h.block k (by omega) (fun x => by have := hB k x; omega)⟩

/-- Two slices in one block have one element type, and as much room. -/
theorem Sl.same_row {w : World} {e e' size n n' cap cap' : Nat} {ao ao' : Option Addr} {f f' : Nat → Value} (h : Sl w e size ao n cap f) (h' : Sl w e' size ao' n' cap' f') {g : Nat}
    (hg : rowOf ao cap = some g) (hg' : rowOf ao' cap' = some g) : e = e' ∧ cap * size = cap' * size ∧ ao = ao' := by
  have key : ∀ {e : TypeId} {n cap : Nat} {ao : Option Addr} {f : Nat → Value}, Sl w e size ao n cap f → rowOf ao cap = some g → ∃ cur, w.heap[g]? = some (.cells cur e (0, 0)) ∧ cur.size = cap * size ∧ ao = some ⟨g, 0, none⟩ := by
    intro e n cap ao f h hg
    unfold rowOf at hg
    split at hg
    · cases hg
    · rename_i hc
      rcases h.2.2 with h0 | ⟨g', cur, rfl, hh, hs, _⟩
      · exact absurd h0 hc
      · simp at hg; subst hg; exact ⟨cur, hh, hs, rfl⟩
  obtain ⟨cur, a1, a2, a3⟩ := key h hg
  obtain ⟨cur', b1, b2, b3⟩ := key h' hg'
  rw [a1] at b1
  injection b1 with b1
  injection b1 with c1 c2 _
  exact ⟨c2, by rw [← a2, ← b2, c1], a3.trans b3.symm⟩

theorem Sl.ne_row {w : World} {e e' size n n' cap cap' : Nat} {ao ao' : Option Addr} {f f' : Nat → Value} (h : Sl w e size ao n cap f) (h' : Sl w e' size ao' n' cap' f') (hne : e ≠ e') {g : Nat}
    (hg : rowOf ao cap = some g) : some g ≠ rowOf ao' cap' := fun hg' => hne (h.same_row h' hg hg'.symm).1

def Dist (n : Nat) (A : Nat → Option Addr) (C : Nat → Nat) : Prop := ∀ j k, j < n → k < n → j ≠ k → ∀ g, rowOf (A j) (C j) = some g → rowOf (A k) (C k) ≠ some g

/-- The rows that came in, and the slice of them. -/
structure St (e tl : TypeId) (F : Nat → Nat → Value) (B : Nat → Prop) (n : Nat) (ao : Option Addr) (cap : Nat) (A : Nat → Option Addr) (L C : Nat → Nat) (w w' : World) : Prop where
  below : Only B w w'
  ls : Sl w' tl 1 ao n cap (fun k => .slice (A k) (L k) (C k))
  fam : ∀ k, k < n → Sl w' e 1 (A k) (L k) (C k) (F k)
  dist : Dist n A C
  own : ∀ k, k < n → ∀ g, rowOf (A k) (C k) = some g → B g
  size : ∀ g, w'.heap.size ≤ g → B g
  ne : e ≠ tl

section
variable {e tl : TypeId} {F F' : Nat → Nat → Value} {B : Nat → Prop} {n cap : Nat} {ao : Option Addr} {A : Nat → Option Addr} {L C : Nat → Nat} {w w' w1 : World}

theorem St.congr (h : St e tl F B n ao cap A L C w w') (hf : ∀ k m, k < n → m < L k → F k m = F' k m) : St e tl F' B n ao cap A L C w w' :=
  { h with fam := fun k hk => (h.fam k hk).congr fun m hm => hf k m hk (by simpa using hm) }

theorem St.rebase (h : St e tl F B n ao cap A L C w w') : St e tl F B n ao cap A L C w' w' := { h with below := Only.refl _ _ }

/-- What changes no row that came in. -/
theorem St.step (h : St e tl F B n ao cap A L C w w') {row : Option Nat} (hg : w'.grownBy w1 row) (hB : ∀ g, row = some g → B g) (hl : ∀ g, row = some g → rowOf ao cap ≠ some g)
    (hr : ∀ g, row = some g → ∀ k, k < n → rowOf (A k) (C k) ≠ some g) : St e tl F B n ao cap A L C w w1 :=
  { below := h.below.grown hg hB
    ls := h.ls.grown hg fun g hgr hr' => hl g hr'.symm hgr
    fam := fun k hk => (h.fam k hk).grown hg fun g hgr hr' => hr g hr'.symm k hk hgr
    dist := h.dist, own := h.own, size := fun g hgg => h.size g (Nat.le_trans hg.size hgg), ne := h.ne }

theorem St.fresh (h : St e tl F B n ao cap A L C w w') (hg : Below w'.heap.size w' w1) : St e tl F B n ao cap A L C w w1 :=
  h.step (grownBy_of_below hg none) (fun _ h => by cases h) (fun _ h => by cases h) (fun _ h => by cases h)
theorem St.drew (h : St e tl F B n ao cap A L C w w') : St e tl F B n ao cap A L C w w'.drew := h.fresh (Below.refl _ _).drew
theorem St.drewN (h : St e tl F B n ao cap A L C w w') (k : Nat) : St e tl F B n ao cap A L C w (w'.drewN k) := h.fresh (below_drewN (Below.refl _ _) k)
theorem St.alloc (h : St e tl F B n ao cap A L C w w') (o : Obj) : St e tl F B n ao cap A L C w (w'.alloc o) := h.fresh ((Below.refl _ _).alloc (Nat.le_refl _) o)

/-- A row of another type is none of the rows. -/
theorem St.other {x : TypeId} {ax : Option Addr} {nx cx : Nat} {fx : Nat → Value} (h : St e tl F B n ao cap A L C w w') (hx : Sl w' x 1 ax nx cx fx) (hne : x ≠ e) : ∀ g, rowOf ax cx = some g → ∀ k, k < n → rowOf (A k) (C k) ≠ some g :=
  fun _ hg k hk hk' => hx.ne_row (h.fam k hk) hne hg hk'.symm
theorem St.otherL {x : TypeId} {ax : Option Addr} {nx cx : Nat} {fx : Nat → Value} (h : St e tl F B n ao cap A L C w w') (hx : Sl w' x 1 ax nx cx fx) (hne : x ≠ tl) : ∀ g, rowOf ax cx = some g → rowOf ao cap ≠ some g :=
  fun _ hg hk' => hx.ne_row h.ls hne hg hk'.symm

/-- A store into cell i of row k. -/
theorem St.put (h : St e tl F B n ao cap A L C w w') {k i gk : Nat} (hk : k < n) (hA : A k = some ⟨gk, 0, none⟩) (hc : 0 < C k) (u : Value) :
    St e tl (fun j m => if j = k ∧ m = i then u else F j m) B n ao cap A L C w (w'.setCell ⟨gk, i, none⟩ u) := by
  have hrow : rowOf (A k) (C k) = some gk := by rw [hA]; simp [rowOf]; omega
  have hg := grownBy_setCell w' ⟨gk, i, none⟩ u
  exact
  { below := h.below.grown hg (fun g hx => by cases hx; exact h.own k hk gk hrow)
    ls := h.ls.grown hg fun g hgr hr' => by
      cases hr'
      exact h.ls.ne_row (h.fam k hk) (fun x => h.ne x.symm) hgr hrow.symm
    fam := fun j hj => by
      by_cases hjk : j = k
      · subst hjk
        have := h.fam j hj
        rw [hA] at this ⊢
        exact (this.set (i := i) u).congr fun m _ => by simp
      · exact ((h.fam j hj).grown hg fun g hgr hr' => by
          cases hr'
          exact h.dist j k hj hk hjk _ hgr hrow).congr fun m _ => by simp [hjk]
    dist := h.dist, own := h.own, size := fun g hgg => h.size g (by simpa using hgg), ne := h.ne }
end

/-- what the rows hold when the first k are marked, and i cells of the next -/
def F1 (M F : Nat → Nat → Value) (k i : Nat) (j m : Nat) : Value := if j < k ∨ (j = k ∧ m < i) then M j m else F j m

theorem F1_zero (M F : Nat → Nat → Value) : F1 M F 0 0 = F := by funext j m; simp [F1]
theorem F1_put (M F : Nat → Nat → Value) (k i : Nat) : (fun j m => if j = k ∧ m = i then M k i else F1 M F k i j m) = F1 M F k (i + 1) := by
  funext j m
  unfold F1
  by_cases h : j = k ∧ m = i
  · obtain ⟨rfl, rfl⟩ := h; simp
  · rw [if_neg h]
    by_cases h1 : j < k ∨ (j = k ∧ m < i)
    · rw [if_pos h1, if_pos (by omega)]
    · rw [if_neg h1, if_neg (by omega)]
theorem F1_next (M F : Nat → Nat → Value) (L : Nat → Nat) (k : Nat) (j m : Nat) (hm : m < L j) : F1 M F k (L k) j m = F1 M F (k + 1) 0 j m := by
  unfold F1
  by_cases h1 : j < k ∨ (j = k ∧ m < L k)
  · rw [if_pos h1, if_pos (by omega)]
  · rw [if_neg h1, if_neg (by
      intro h
      rcases h with h | h
      · rcases Nat.lt_or_ge j k with h2 | h2
        · exact h1 (.inl h2)
        · have : j = k := by omega
          subst this
          exact h1 (.inr ⟨rfl, hm⟩)
      · omega)]

/-- The second slice of slices, and the rows that it has so far (nn k: how many cells of row k are known). -/
structure Gs (e tl : TypeId) (M : Nat → Nat → Value) (n : Nat) (A : Nat → Option Addr) (L C nn : Nat → Nat) (hg k : Nat) (G : Nat → Value) (A' : Nat → Option Addr) (C' : Nat → Nat) (B : Nat → Prop) (w : World) : Prop where
  gs : Sl w tl 1 (some ⟨hg, 0, none⟩) n n (fun j => if j < k then .slice (A' j) (L j + 64) (C' j) else G j)
  rows : ∀ j, j < k → Sl w e 1 (A' j) (nn j) (C' j) (M j)
  far : ∀ j, j < k → ∀ i, i < n → i ≠ j → ∀ g, rowOf (A' j) (C' j) = some g → rowOf (A i) (C i) ≠ some g
  own : B hg

section
variable {e tl : TypeId} {M : Nat → Nat → Value} {B : Nat → Prop} {n cap hg k : Nat} {ao : Option Addr} {A A' : Nat → Option Addr} {L C C' nn : Nat → Nat} {G : Nat → Value} {w w' w1 : World}

theorem Gs.step (h : Gs e tl M n A L C nn hg k G A' C' B w) {row : Option Nat} (hgr : w.grownBy w1 row) (hn : n = 0 ∨ row ≠ some hg) (hr : ∀ g, row = some g → ∀ j, j < k → rowOf (A' j) (C' j) ≠ some g) :
    Gs e tl M n A L C nn hg k G A' C' B w1 :=
  { gs := h.gs.grown hgr fun g hg' hx => by
      rcases hn with rfl | hn
      · simp [rowOf] at hg'
      · unfold rowOf at hg'; split at hg'
        · cases hg'
        · simp at hg'; subst hg'; exact hn hx.symm
    rows := fun j hj => (h.rows j hj).grown hgr fun g hg' hx => hr g hx.symm j hj hg'
    far := h.far, own := h.own }
theorem Gs.fresh (h : Gs e tl M n A L C nn hg k G A' C' B w) (hb : Below w.heap.size w w1) : Gs e tl M n A L C nn hg k G A' C' B w1 :=
  h.step (grownBy_of_below hb none) (.inr (by simp)) (fun _ h => by cases h)
theorem Gs.drew (h : Gs e tl M n A L C nn hg k G A' C' B w) : Gs e tl M n A L C nn hg k G A' C' B w.drew := h.fresh (Below.refl _ _).drew
theorem Gs.drewN (h : Gs e tl M n A L C nn hg k G A' C' B w) (m : Nat) : Gs e tl M n A L C nn hg k G A' C' B (w.drewN m) := h.fresh (below_drewN (Below.refl _ _) m)

/-- gs[k] = v -/
theorem Gs.put (h : Gs e tl M n A L C nn hg k G A' C' B w) (hne : e ≠ tl) (hk : k < n) {av : Option Addr} {cv : Nat} (hv : Sl w e 1 av (nn k) cv (M k))
    (hf : ∀ i, i < n → i ≠ k → ∀ g, rowOf av cv = some g → rowOf (A i) (C i) ≠ some g) :
    Gs e tl M n A L C nn hg (k + 1) G (fun j => if j = k then av else A' j) (fun j => if j = k then cv else C' j) B (w.setCell ⟨hg, k, none⟩ (.slice av (L k + 64) cv)) := by
  have hgr := grownBy_setCell w ⟨hg, k, none⟩ (.slice av (L k + 64) cv)
  have hrow : rowOf (some (⟨hg, 0, none⟩ : Addr)) n = some hg := by simp [rowOf]; omega
  have hx : ∀ {a c m f}, Sl w e 1 a m c f → ∀ g, rowOf a c = some g → some g ≠ some hg := fun hs g hg' he => hs.ne_row h.gs hne hg' (he.trans hrow.symm)
  refine ⟨?_, ?_, ?_, h.own⟩
  · refine (h.gs.set (i := k) (.slice av (L k + 64) cv)).congr fun j _ => ?_
    by_cases hjk : j = k
    · subst hjk; simp
    · by_cases hlt : j < k
      · simp [hjk, hlt, show j < k + 1 by omega]
      · simp [hjk, hlt, show ¬ j < k + 1 by omega]
  · intro j hj
    by_cases hjk : j = k
    · subst hjk
      simpa using hv.grown hgr (hx hv)
    · have := h.rows j (by omega)
      simpa [hjk] using this.grown hgr (hx this)
  · intro j hj i hi hij g hg'
    by_cases hjk : j = k
    · subst hjk; simp at hg'; exact hf i hi hij g hg'
    · simp [hjk] at hg'; exact h.far j (by omega) i hi hij g hg'
end

/-- A copy of a slice's head that grows beside it: in its row, or in another. -/
structure Twin (e : TypeId) (M : Nat → Nat → Value) (n k : Nat) (A : Nat → Option Addr) (C : Nat → Nat) (Ag : Option Addr) (m Cg : Nat) (gh : Nat) (A' : Nat → Option Addr) (C' : Nat → Nat) (w : World) : Prop where
  sl : Sl w e 1 Ag m Cg (M k)
  far : ∀ i, i < n → i ≠ k → ∀ g, rowOf Ag Cg = some g → rowOf (A i) (C i) ≠ some g
  farG : ∀ j, j < k → ∀ g, rowOf Ag Cg = some g → rowOf (A' j) (C' j) ≠ some g

section
variable {e tl : TypeId} {M : Nat → Nat → Value} {B : Nat → Prop} {n cap hg k : Nat} {ao : Option Addr} {A A' : Nat → Option Addr} {L C C' nn : Nat → Nat} {G : Nat → Value} {w w' w1 : World}

/-- An append onto the row k, or onto its twin: everything else stays. -/
theorem append_step (hs : St e tl M B n ao cap A L C w w') (hgs : Gs e tl M n A L C nn hg k G A' C' B w') (hk : k < n) {Ag ao' : Option Addr} {m m' Cg cap' : Nat} {f : Nat → Value}
    (ht : Twin e M n k A C Ag m Cg hg A' C' w') (hlm : L k ≤ m) (ha : Appended w' w1 e 1 Ag m Cg ao' m' cap' f) (hmm : m ≤ m') (hf : ∀ j, j < m → f j = M k j)
    (hB : ∀ g, rowOf Ag Cg = some g → B g) :
    St e tl M B n ao cap A L C w w1 ∧ Gs e tl M n A L C nn hg k G A' C' B w1 ∧ (∀ i, i < n → i ≠ k → ∀ g, rowOf ao' cap' = some g → rowOf (A i) (C i) ≠ some g) ∧
      (∀ j, j < k → ∀ g, rowOf ao' cap' = some g → rowOf (A' j) (C' j) ≠ some g) ∧ ∀ g, rowOf ao' cap' = some g → B g := by
  have hn0 : n ≠ 0 := by omega
  have hrowg : rowOf (some (⟨hg, 0, none⟩ : Addr)) n = some hg := by simp [rowOf]; omega
  rcases ha.way with ⟨rfl, rfl, hgr, _⟩ | ⟨hlt, rfl, hb, _⟩
  · refine ⟨?_, ?_, ht.far, ht.farG, hB⟩
    · refine
      { below := hs.below.grown hgr hB
        ls := hs.ls.grown hgr fun g hg' => hs.ls.ne_row ht.sl (fun x => hs.ne x.symm) hg'
        fam := fun j hj => ?_
        dist := hs.dist, own := hs.own, size := fun g hgg => hs.size g (Nat.le_trans hgr.size hgg), ne := hs.ne }
      by_cases hjk : j = k
      · subst hjk
        by_cases hsame : ∃ g, rowOf (A j) (C j) = some g ∧ rowOf ao' cap' = some g
        · obtain ⟨g, h1, h2⟩ := hsame
          obtain ⟨_, hcap, haddr⟩ := (hs.fam j hj).same_row ht.sl h1 h2
          have hcap' : C j = cap' := by omega
          rw [haddr, hcap']
          exact (ha.sl.shorter (m := L j) (by omega)).congr fun i hi => hf i (by omega)
        · exact (hs.fam j hj).grown hgr fun g hg' hx => hsame ⟨g, hg', hx.symm⟩
      · exact (hs.fam j hj).grown hgr fun g hg' hx => ht.far j hj hjk g hx.symm hg'
    · exact hgs.step hgr (.inr fun hx => ht.sl.ne_row hgs.gs hs.ne hx hrowg.symm) fun g hg' j hj => ht.farG j hj g hg'
  · have hnew : ∀ g, rowOf (some (⟨w'.heap.size, 0, none⟩ : Addr)) cap' = some g → g = w'.heap.size := by
      intro g hg'; unfold rowOf at hg'; split at hg'
      · cases hg'
      · simpa using hg'.symm
    refine ⟨hs.fresh hb, hgs.fresh hb, ?_, ?_, ?_⟩
    · intro i hi _ g hg' hx
      have := (hs.fam i hi).row_lt g hx
      have := hnew g hg'
      omega
    · intro j hj g hg' hx
      have := (hgs.rows j hj).row_lt g hx
      have := hnew g hg'
      omega
    · intro g hg'
      have := hnew g hg'
      exact hs.size g (by omega)

theorem Twin.start (hs : St e tl M B n ao cap A L C w w') (hgs : Gs e tl M n A L C nn hg k G A' C' B w') (hk : k < n) : Twin e M n k A C (A k) (L k) (C k) hg A' C' w' :=
  ⟨hs.fam k hk, fun i hi hik g hg' => hs.dist k i hk hi (fun h => hik h.symm) g hg', fun j hj g hg' hx => hgs.far j hj k hk (by omega) g hx hg'⟩

/-- One cell more. -/
theorem twin_next (hs : St e tl M B n ao cap A L C w w') (hgs : Gs e tl M n A L C nn hg k G A' C' B w') (hk : k < n) {Ag ao' : Option Addr} {m Cg cap' : Nat} (o : Obj)
    (ht : Twin e M n k A C Ag m Cg hg A' C' w') (hlm : L k ≤ m) (hB : ∀ g, rowOf Ag Cg = some g → B g)
    (ha : Appended (w'.alloc o) w1 e 1 Ag m Cg ao' (m + 1) cap' (fun j => if j < m then M k j else [M k m][j - m]?.getD undef)) :
    St e tl M B n ao cap A L C w w1 ∧ Gs e tl M n A L C nn hg k G A' C' B w1 ∧ Twin e M n k A C ao' (m + 1) cap' hg A' C' w1 ∧ ∀ g, rowOf ao' cap' = some g → B g := by
  obtain ⟨h1, h2, h3, h4, h5⟩ := append_step (hs.alloc o) (hgs.fresh ((Below.refl _ _).alloc (Nat.le_refl _) o)) hk ⟨ht.sl.alloc o, ht.far, ht.farG⟩ hlm ha (by omega) (fun j hj => by simp [hj]) hB
  refine ⟨h1, h2, ⟨ha.sl.congr fun j hj => ?_, h3, h4⟩, h5⟩
  by_cases hjm : j < m
  · simp [hjm]
  · have : j = m := by omega
    subst this
    simp

/-- The second slice of slices has just been laid. -/
theorem Gs.start (hs : St e tl M B n ao cap A L C w w') (hm : n ≤ maxLen) :
    Gs e tl M n A L C nn w'.heap.size 0 (fun _ => .slice none 0 0) A' C' B (w'.alloc (.cells (madeCells #[.slice none 0 0] n) tl)) :=
  { gs := (Sl.made w' tl (.slice none 0 0) n n (Nat.le_refl _) hm).congr fun j _ => by simp
    rows := fun _ h => absurd h (by omega)
    far := fun _ h => absurd h (by omega)
    own := hs.size _ (Nat.le_refl _) }

/-- A store into the second slice of slices changes no row. -/
theorem St.putG (hs : St e tl M B n ao cap A L C w w') (hgs : Gs e tl M n A L C nn hg k G A' C' B w') (hn : 0 < n) (hao : rowOf ao cap ≠ some hg) (i : Nat) (u : Value) :
    St e tl M B n ao cap A L C w (w'.setCell ⟨hg, i, none⟩ u) :=
  hs.step (grownBy_setCell w' ⟨hg, i, none⟩ u) (fun g h => by cases h; exact hgs.own) (fun g h => by cases h; exact hao)
    (fun g h => by cases h; exact hs.other hgs.gs (fun x => hs.ne x.symm) hg (by simp [rowOf]; omega))

theorem Gs.again (h : Gs e tl M n A L C nn hg n G A' C' B w) {nn' : Nat → Nat} {A2 : Nat → Option Addr} {C2 : Nat → Nat} : Gs e tl M n A L C nn' hg 0 (fun j => .slice (A' j) (L j + 64) (C' j)) A2 C2 B w :=
  { gs := h.gs.congr fun j hj => by simp [show j < n by omega]
    rows := fun _ h => absurd h (by omega)
    far := fun _ h => absurd h (by omega)
    own := h.own }

/-- A slice that has just been made, its cells all of one cell. -/
structure Fresh (e : TypeId) (n : Nat) (ao : Option Addr) (cap : Nat) (A : Nat → Option Addr) (C : Nat → Nat) (A' : Nat → Option Addr) (C' : Nat → Nat) (hg k : Nat) (B : Nat → Prop) (hm : Nat) (fm : Nat → Value) (w : World) : Prop where
  sl : Sl w e 1 (some ⟨hm, 0, none⟩) 64 64 fm
  one : ∀ j, j < 64 → (fm j).oneCell' = true
  neL : rowOf ao cap ≠ some hm
  neA : ∀ i, i < n → rowOf (A i) (C i) ≠ some hm
  neG : ∀ j, j < k → rowOf (A' j) (C' j) ≠ some hm
  ne : hm ≠ hg
  own : B hm

theorem Fresh.start (hs : St e tl M B n ao cap A L C w w') (hgs : Gs e tl M n A L C nn hg k G A' C' B w') (hn : 0 < n) (z : Value) (hz : z.oneCell' = true) :
    Fresh e n ao cap A C A' C' hg k B w'.heap.size (fun _ => z) (w'.alloc (.cells (madeCells #[z] 64) e)) :=
  { sl := Sl.made w' e z 64 64 (Nat.le_refl _) (by unfold maxLen; omega)
    one := fun _ _ => hz
    neL := fun h => by have := hs.ls.row_lt _ h; omega
    neA := fun i hi h => by have := (hs.fam i hi).row_lt _ h; omega
    neG := fun j hj h => by have := (hgs.rows j hj).row_lt _ h; omega
    ne := fun h => by have := hgs.gs.row_lt hg (by simp [rowOf]; omega); omega
    own := hs.size _ (Nat.le_refl _) }

theorem Fresh.alloc {hm : Nat} {fm : Nat → Value} (h : Fresh e n ao cap A C A' C' hg k B hm fm w) (o : Obj) : Fresh e n ao cap A C A' C' hg k B hm fm (w.alloc o) :=
  { h with sl := h.sl.alloc o }
theorem Fresh.put {hm i : Nat} {fm : Nat → Value} (h : Fresh e n ao cap A C A' C' hg k B hm fm w) (u : Value) (hu : u.oneCell' = true) :
    Fresh e n ao cap A C A' C' hg k B hm (fun j => if j = i then u else fm j) (w.setCell ⟨hm, i, none⟩ u) :=
  { sl := h.sl.set u
    one := fun j hj => by
      by_cases e : j = i
      · simp [e, hu]
      · simp [e, h.one j hj]
    neL := h.neL, neA := h.neA, neG := h.neG, ne := h.ne, own := h.own }
theorem St.putM {hm i : Nat} {fm : Nat → Value} (hs : St e tl M B n ao cap A L C w w') (h : Fresh e n ao cap A C A' C' hg k B hm fm w') (u : Value) : St e tl M B n ao cap A L C w (w'.setCell ⟨hm, i, none⟩ u) :=
  hs.step (grownBy_setCell w' ⟨hm, i, none⟩ u) (fun g h' => by cases h'; exact h.own) (fun g h' => by cases h'; exact h.neL) (fun g h' => by cases h'; exact h.neA)
theorem Gs.putM {hm i : Nat} {fm : Nat → Value} (hgs : Gs e tl M n A L C nn hg k G A' C' B w') (h : Fresh e n ao cap A C A' C' hg k B hm fm w') (u : Value) : Gs e tl M n A L C nn hg k G A' C' B (w'.setCell ⟨hm, i, none⟩ u) :=
  hgs.step (grownBy_setCell w' ⟨hm, i, none⟩ u) (.inr (fun h' => by cases h'; exact h.ne rfl)) (fun g h' => by cases h'; exact h.neG)

theorem fresh_news {hm : Nat} {fm : Nat → Value} (h : Fresh e n ao cap A C A' C' hg k B hm fm w) :
    ∀ j u, ((List.range 64).map fm)[j]? = some u → w.cell? ((⟨hm, 0, none⟩ : Addr).add j) = some u := by
  intro j u hu
  have hj : j < 64 := by
    have := (List.getElem?_eq_some_iff.1 hu).1
    simpa using this
  have hadd : (⟨hm, 0, none⟩ : Addr).add j = ⟨hm, j, none⟩ := by unfold Addr.add; split <;> simp_all
  rw [hadd, h.sl.cell (i := j) (by omega)]
  simpa [hj] using hu
theorem fresh_one {hm : Nat} {fm : Nat → Value} (h : Fresh e n ao cap A C A' C' hg k B hm fm w) : ∀ u ∈ (List.range 64).map fm, u.oneCell' = true := by
  intro u hu
  obtain ⟨j, hj, rfl⟩ := List.mem_map.1 hu
  exact h.one j (List.mem_range.1 hj)

theorem fresh_list {hm : Nat} {fm : Nat → Value} (h : Fresh e n ao cap A C A' C' hg k B hm fm w) :
    ∃ news : List Value, news.length = 64 * 1 ∧ (∀ j u, news[j]? = some u → w.cell? ((⟨hm, 0, none⟩ : Addr).add j) = some u) ∧ ∀ u ∈ news, u.oneCell' = true :=
  ⟨(List.range 64).map fm, by simp, fresh_news h, fresh_one h⟩

/-- gs[k] = append(ls[k], many...): what holds behind the append. -/
theorem many_next (hs : St e tl M B n ao cap A L C w w') (hgs : Gs e tl M n A L C L hg k G A' C' B w') (hk : k < n) {ao' : Option Addr} {cap' : Nat} {news : List Value}
    (ha : Appended w' w1 e 1 (A k) (L k) (C k) ao' (L k + 64) cap' (fun j => if j < L k then M k j else news[j - L k]?.getD undef)) :
    St e tl M B n ao cap A L C w w1 ∧ Gs e tl M n A L C L hg k G A' C' B w1 ∧ Sl w1 e 1 ao' (L k) cap' (M k) ∧ (∀ i, i < n → i ≠ k → ∀ g, rowOf ao' cap' = some g → rowOf (A i) (C i) ≠ some g) := by
  obtain ⟨h1, h2, h3, _, _⟩ := append_step hs hgs hk (Twin.start hs hgs hk) (Nat.le_refl _) ha (by omega) (fun j hj => by simp [hj]) (hs.own k hk)
  exact ⟨h1, h2, (ha.sl.shorter (m := L k) (by omega)).congr fun j hj => by simp [show j < L k by omega], h3⟩
end

end Go.Proofs.YtpfinkdpaomliaaGreat
