/-
  The reference's run as it grows: two slices of slices and an order, each in blocks of its own; the lists that it fills.
-/
import Derived.Test.YtpfinkdpaomliaaGreatRefCheck
import Derived.Test.YtpfinkdpaomliaaGreatFam2
namespace Go.Proofs.YtpfinkdpaomliaaGreat
open Go.RowKit

theorem natI_app (l m : List Nat) : natI (l ++ m) = natI l ++ natI m := by simp [natI]
theorem filt_next (p : Nat → Bool) (i : Nat) : (List.range (i + 1)).filter p = (List.range i).filter p ++ if p i = true then [i] else [] := by
  rw [List.range_succ, List.filter_append]
  cases h : p i <;> simp [h]
/-- The items of stacker k in the first pass, out of the first i. -/
def firstL (l : List Seat) (items : List Int) (k i : Nat) : List Int := natI ((List.range i).filter fun j => decide (selF l items j = k))
theorem first_yes {l : List Seat} {items : List Int} {k i : Nat} (h : selF l items i = k) : firstL l items k (i + 1) = firstL l items k i ++ [(i : Int)] := by
  unfold firstL
  rw [filt_next, natI_app, if_pos (by simpa using h)]
  rfl
theorem first_no {l : List Seat} {items : List Int} {k i : Nat} (h : selF l items i ≠ k) : firstL l items k (i + 1) = firstL l items k i := by
  unfold firstL
  rw [filt_next, if_neg (by simpa using h), List.append_nil]
theorem first_len (l : List Seat) (items : List Int) (k i : Nat) : (firstL l items k i).length ≤ i := by
  unfold firstL
  rw [natI_len]
  exact Nat.le_trans (List.length_filter_le _ _) (by simp)
/-- The items of a stop out of the first i. -/
def hitL (items : List Int) (x : Int) (i : Nat) : List Int := natI ((List.range i).filter fun j => decide (items.getD j 0 = x))
theorem hit_yes {items : List Int} {x : Int} {i : Nat} (h : items.getD i 0 = x) : hitL items x (i + 1) = hitL items x i ++ [(i : Int)] := by
  unfold hitL
  rw [filt_next, natI_app, if_pos (by simpa using h)]
  rfl
theorem hit_no {items : List Int} {x : Int} {i : Nat} (h : items.getD i 0 ≠ x) : hitL items x (i + 1) = hitL items x i := by
  unfold hitL
  rw [filt_next, if_neg (by simpa using h), List.append_nil]
theorem hit_len (items : List Int) (x : Int) (i : Nat) : (hitL items x i).length ≤ i := by
  unfold hitL
  rw [natI_len]
  exact Nat.le_trans (List.length_filter_le _ _) (by simp)
/-- The items of stacker k in the second pass, by the first s seats. -/
def twoL (l : List Seat) (items : List Int) (k s : Nat) : List Int := natI (((l.take s).filter fun t => decide (secondN t = k)).flatMap fun t => (List.range items.length).filter fun i => decide (items.getD i 0 = Seat.stop t))
theorem two_zero (l : List Seat) (items : List Int) (k : Nat) : twoL l items k 0 = [] := rfl
theorem two_yes {l : List Seat} {items : List Int} {k s : Nat} (hs : s < l.length) (h : secondN (l.getD s seatD) = k) : twoL l items k (s + 1) = twoL l items k s ++ hitL items (Seat.stop (l.getD s seatD)) items.length := by
  unfold twoL hitL
  rw [take_snoc' l seatD s hs, List.filter_append, List.flatMap_append, natI_app]
  congr 1
  rw [List.filter_cons, if_pos (by simpa using h), List.filter_nil, List.flatMap_cons, List.flatMap_nil, List.append_nil]
theorem two_no {l : List Seat} {items : List Int} {k s : Nat} (hs : s < l.length) (h : secondN (l.getD s seatD) ≠ k) : twoL l items k (s + 1) = twoL l items k s := by
  unfold twoL
  rw [take_snoc' l seatD s hs, List.filter_append, List.flatMap_append, natI_app, List.filter_cons, if_neg (by simpa using h)]
  simp [natI]
theorem two_len (l : List Seat) (items : List Int) (k : Nat) : ∀ s, s ≤ l.length → (twoL l items k s).length ≤ s * items.length
  | 0, _ => by simp [twoL, natI]
  | s + 1, hs => by
    have ih := two_len l items k s (by omega)
    have h1 := hit_len items (Seat.stop (l.getD s seatD)) items.length
    rw [Nat.add_mul]
    by_cases h : secondN (l.getD s seatD) = k
    · rw [two_yes (by omega) h, List.length_append]; omega
    · rw [two_no (by omega) h]; omega
theorem pass1_at {p : PlanP} {items : List Int} {k : Nat} (hk : k < p.caps.length) : famN ((pass1 p items).take (k + 1)) = famN ((pass1 p items).take k) ++ [firstL p.seats items k items.length] := by
  rw [take_snoc' (pass1 p items) [] k (by unfold pass1; rw [pass_len]; exact hk)]
  unfold famN firstL
  rw [List.map_append]
  unfold pass1
  rw [pass_at _ _ _ _ hk]
  rfl
theorem ref_two_at {p : PlanP} {items : List Int} {k : Nat} (hk : k < p.caps.length) : (refTwo p items).take (k + 1) = (refTwo p items).take k ++ [(p.seats.filter fun s => decide (secondN s = k)).flatMap fun s => (List.range items.length).filter fun i => decide (items.getD i 0 = Seat.stop s)] := by
  have hl : (refTwo p items).length = p.caps.length := by simp [refTwo]
  rw [take_snoc' (refTwo p items) [] k (by omega)]
  congr 2
  simp [refTwo, List.getD_eq_getElem?_getD, hk]
theorem pass2_at {p : PlanP} {items : List Int} (h2 : pass2 p items = refTwo p items) {k : Nat} (hk : k < p.caps.length) : famN ((pass2 p items).take (k + 1)) = famN ((pass2 p items).take k) ++ [twoL p.seats items k p.seats.length] ∧
    natI ((pass2 p items).take (k + 1)).flatten = natI ((pass2 p items).take k).flatten ++ twoL p.seats items k p.seats.length := by
  rw [h2, ref_two_at hk]
  have e : twoL p.seats items k p.seats.length = natI ((p.seats.filter fun s => decide (secondN s = k)).flatMap fun s => (List.range items.length).filter fun i => decide (items.getD i 0 = Seat.stop s)) := by
    unfold twoL
    rw [List.take_of_length_le (Nat.le_refl _)]
  refine ⟨?_, ?_⟩
  · unfold famN
    rw [List.map_append, e]
    rfl
  · rw [List.flatten_append, natI_app, e]
    simp
theorem pass_take_all (p : PlanP) (items : List Int) : (pass1 p items).take p.caps.length = pass1 p items ∧ (pass2 p items).take p.caps.length = pass2 p items :=
  ⟨List.take_of_length_le (by unfold pass1; rw [pass_len]; exact Nat.le_refl _), List.take_of_length_le (by unfold pass2; rw [pass_len]; exact Nat.le_refl _)⟩

/-- A run in the making. -/
structure RS (B : Nat) (w : World) (v1 v2 v3 : Slc) (ss1 ss2 : List Slc) (xs1 xs2 : List (List Int)) (ys : List Int) : Prop where
  f1 : OwnL 1 slcC slcD 23 B w v1.ao v1.n v1.cap ss1
  f2 : OwnL 1 slcC slcD 23 B w v2.ao v2.n v2.cap ss2
  g1 : Fam B w ss1 xs1
  g2 : Fam B w ss2 xs2
  o : OwnI B w v3.ao v3.n v3.cap ys
  d12 : ∀ g, rowOf v1.ao v1.cap = some g → rowOf v2.ao v2.cap ≠ some g
  d1 : ∀ j, j < xs1.length → ∀ g, rowAt ss1 j = some g → rowOf v3.ao v3.cap ≠ some g
  d2 : ∀ j, j < xs2.length → ∀ g, rowAt ss2 j = some g → rowOf v3.ao v3.cap ≠ some g
section
variable {B : Nat} {w w' w1 : World} {v1 v2 v3 : Slc} {ss1 ss2 : List Slc} {xs1 xs2 : List (List Int)} {ys : List Int}
theorem RS.nil (B : Nat) (w : World) : RS B w slcD slcD slcD [] [] [] [] [] :=
  ⟨OwnL.nil _ _ _ _, OwnL.nil _ _ _ _, Fam.nil _ _, Fam.nil _ _, OwnI.nil _ _ _, fun g hg => by simp [rowOf, slcD] at hg, fun j hj => absurd hj (Nat.not_lt_zero _), fun j hj => absurd hj (Nat.not_lt_zero _)⟩
theorem RS.swap (h : RS B w v1 v2 v3 ss1 ss2 xs1 xs2 ys) : RS B w v2 v1 v3 ss2 ss1 xs2 xs1 ys :=
  ⟨h.f2, h.f1, h.g2, h.g1, h.o, fun g hg hx => h.d12 g hx hg, h.d2, h.d1⟩
theorem RS.below (h : RS B w v1 v2 v3 ss1 ss2 xs1 xs2 ys) (hb : Below w.heap.size w w') : RS B w' v1 v2 v3 ss1 ss2 xs1 xs2 ys :=
  ⟨h.f1.below hb, h.f2.below hb, h.g1.below hb, h.g2.below hb, h.o.below hb, h.d12, h.d1, h.d2⟩
theorem RS.alloc (h : RS B w v1 v2 v3 ss1 ss2 xs1 xs2 ys) (o : Obj) : RS B (w.alloc o) v1 v2 v3 ss1 ss2 xs1 xs2 ys := h.below ((Below.refl _ _).alloc (Nat.le_refl _) o)
theorem RS.set1 (h : RS B w v1 v2 v3 ss1 ss2 xs1 xs2 ys) {q : Nat} (hq : q < B) (i : Nat) (v : Value) : RS B (w.setCell ⟨q, i, none⟩ v) v1 v2 v3 ss1 ss2 xs1 xs2 ys := by
  have key : ∀ (ss : List Slc) (xs : List (List Int)), Fam B w ss xs → Fam B (w.setCell ⟨q, i, none⟩ v) ss xs := fun ss xs h =>
    h.grown (grownBy_setCell w ⟨q, i, none⟩ v) (fun g hg k hk hx => by cases hg; have := (h.at_ k hk).row _ hx; have : B ≤ q := this; omega)
  exact ⟨⟨h.f1.sl.far (p := ⟨q, i, none⟩) (fun g hg e => by have := h.f1.row g hg; have e : g = q := e; omega) v, h.f1.len, h.f1.row⟩,
    ⟨h.f2.sl.far (p := ⟨q, i, none⟩) (fun g hg e => by have := h.f2.row g hg; have e : g = q := e; omega) v, h.f2.len, h.f2.row⟩, key _ _ h.g1, key _ _ h.g2, h.o.set1 hq i v, h.d12, h.d1, h.d2⟩
/-- A block of slices is none of a family's. -/
theorem Fam.other_sl {ss : List Slc} {xss : List (List Int)} (h : Fam B w ss xss) {ao : Option Addr} {n cap : Nat} {f : Nat → Value} {e : TypeId} (hs : Sl w e 1 ao n cap f) (he : e ≠ 3) :
    ∀ g, rowOf ao cap = some g → ∀ k, k < xss.length → rowAt ss k ≠ some g := fun g hg k hk hx => hs.ne_row (h.at_ k hk).sl he hg hx.symm
theorem own_other {ao bo : Option Addr} {n cap m cap2 : Nat} {f : Nat → Value} {e : TypeId} {xs : List Int} (h : OwnI B w bo m cap2 xs) (hs : Sl w e 1 ao n cap f) (he : e ≠ 3) : ∀ g, rowOf ao cap = some g → rowOf bo cap2 ≠ some g := fun g hg hx => hs.ne_row h.sl he hg hx.symm
theorem OwnI.grown2 {bo : Option Addr} {m cap2 : Nat} {xs : List Int} (h : OwnI B w bo m cap2 xs) {row : Option Nat} (hg : w.grownBy w' row) (hr : ∀ g, row = some g → rowOf bo cap2 ≠ some g) : OwnI B w' bo m cap2 xs :=
  ⟨h.sl.grown hg (fun g hg' e => hr g e.symm hg'), h.len, h.row⟩
theorem OwnL.grown2 {bo : Option Addr} {m cap2 : Nat} {ss : List Slc} (h : OwnL 1 slcC slcD 23 B w bo m cap2 ss) {row : Option Nat} (hg : w.grownBy w' row) (hr : ∀ g, row = some g → rowOf bo cap2 ≠ some g) : OwnL 1 slcC slcD 23 B w' bo m cap2 ss :=
  h.grown hg (fun g hg' e => hr g e.symm hg')
theorem app_row {e : TypeId} {size n cap n' cap' : Nat} {ao ao' : Option Addr} {f : Nat → Value} (ha : Appended w w1 e size ao n cap ao' n' cap' f) : ∀ g, rowOf ao' cap' = some g → rowOf ao cap = some g ∨ g = w.heap.size := by
  intro g hg
  rcases ha.way with ⟨rfl, rfl, _, _⟩ | ⟨_, rfl, _, _⟩
  · exact .inl hg
  · exact .inr (rowOf_new hg)
/-- One slice more in the first slice of slices. -/
theorem RS.first (h : RS B w v1 v2 v3 ss1 ss2 xs1 xs2 ys) (hB : B ≤ w.heap.size) {s : Slc} {xs : List Int} (hs : OwnI B w s.ao s.n s.cap xs) (hsr : ∀ j, j < xs1.length → ∀ g, rowAt ss1 j = some g → rowOf s.ao s.cap ≠ some g)
    (hs3 : ∀ g, rowOf s.ao s.cap = some g → rowOf v3.ao v3.cap ≠ some g) {ao' : Option Addr} {n' cap' : Nat} {f : Nat → Value} (hn : n' = v1.n + 1)
    (hf : ∀ j, j < v1.n + 1 → f j = if j < v1.n then cellsF 1 slcC slcD ss1 j else ([s.val])[j - v1.n]?.getD undef) (ha : Appended w w1 23 1 v1.ao v1.n v1.cap ao' n' cap' f) :
    RS B w1 ⟨ao', n', cap'⟩ v2 v3 (ss1 ++ [s]) ss2 (xs1 ++ [xs]) xs2 ys := by
  have hg := ha.grown
  have hrow := app_row ha
  have hs' := hs.grown2 hg (own_other hs h.f1.sl (by decide))
  have ha2 : Appended w w1 23 1 v1.ao v1.n v1.cap ao' n' cap' (fun j => if j < v1.n * 1 then cellsF 1 slcC slcD ss1 j else ([s.val])[j - v1.n * 1]?.getD undef) :=
    ⟨ha.sl.congr fun j hj => by rw [hf j (by omega), Nat.mul_one], ha.way⟩
  refine ⟨ownL_app slcE h.f1 hB s hn rfl ha2, h.f2.grown2 hg (fun g hg' => h.d12 g hg'), fam_snoc (h.g1.grown2 hg (h.g1.other_sl h.f1.sl (by decide))) hs' hsr, h.g2.grown2 hg (h.g2.other_sl h.f1.sl (by decide)),
    h.o.grown2 hg (own_other h.o h.f1.sl (by decide)), fun g hg' hx => ?_, fun j hj g hg' => ?_, h.d2⟩
  · rcases hrow g hg' with h1 | rfl
    · exact h.d12 g h1 hx
    · have := h.f2.sl.row_lt _ hx; omega
  · rw [List.length_append] at hj
    have hl := h.g1.len
    by_cases e : j < xs1.length
    · have : rowAt (ss1 ++ [s]) j = rowAt ss1 j := by unfold rowAt; rw [getD_app_l _ _ _ _ (by omega)]
      rw [this] at hg'
      exact h.d1 j e g hg'
    · simp only [List.length_cons, List.length_nil] at hj
      have : rowAt (ss1 ++ [s]) j = rowOf s.ao s.cap := by
        unfold rowAt
        rw [getD_app_r _ _ _ _ (by omega), show j - ss1.length = 0 by omega]
        rfl
      rw [this] at hg'
      exact hs3 g hg'
/-- The order grows. -/
theorem RS.order (h : RS B w v1 v2 v3 ss1 ss2 xs1 xs2 ys) (hB : B ≤ w.heap.size) {xs : List Int} {ao' : Option Addr} {n' cap' : Nat} {f : Nat → Value} {news : List Value} {m : Nat} (hn : n' = v3.n + m) (hm : xs.length = m)
    (hx : news = xs.map (Value.int .i64)) (hf : ∀ j, j < v3.n + m → f j = if j < v3.n then intF ys j else news[j - v3.n]?.getD undef) (ha : Appended w w1 3 1 v3.ao v3.n v3.cap ao' n' cap' f) :
    RS B w1 v1 v2 ⟨ao', n', cap'⟩ ss1 ss2 xs1 xs2 (ys ++ xs) := by
  have hg := ha.grown
  have hrow := app_row ha
  have ha2 : Appended w w1 3 1 v3.ao v3.n v3.cap ao' n' cap' (fun j => if j < v3.n then intF ys j else news[j - v3.n]?.getD undef) := ⟨ha.sl.congr fun j hj => hf j (by omega), ha.way⟩
  refine ⟨h.f1.grown2 hg (fun g hg' hx => h.o.sl.ne_row h.f1.sl (by decide) hg' hx.symm), h.f2.grown2 hg (fun g hg' hx => h.o.sl.ne_row h.f2.sl (by decide) hg' hx.symm), h.g1.grown2 hg (fun g hg' k hk hx => h.d1 k hk g hx hg'),
    h.g2.grown2 hg (fun g hg' k hk hx => h.d2 k hk g hx hg'), ownI_app h.o hB hn hm hx ha2, h.d12, fun j hj g hg' hx => ?_, fun j hj g hg' hx => ?_⟩
  · rcases hrow g hx with h1 | rfl
    · exact h.d1 j hj g hg' h1
    · have := h.g1.row_lt hj hg'; omega
  · rcases hrow g hx with h1 | rfl
    · exact h.d2 j hj g hg' h1
    · have := h.g2.row_lt hj hg'; omega
/-- The last slice of the second slice of slices. -/
theorem RS.last2 {s : Slc} {xs : List Int} (h : RS B w v1 v2 v3 ss1 (ss2 ++ [s]) xs1 (xs2 ++ [xs]) ys) : OwnI B w s.ao s.n s.cap xs := by
  have hl : ss2.length = xs2.length := by have := h.g2.len; simp at this; exact this
  have := h.g2.at_ xs2.length (by simp)
  rw [getD_app_r _ _ _ _ (by omega), getD_app_r _ _ _ _ (by omega), show xs2.length - ss2.length = 0 by omega, Nat.sub_self] at this
  exact this
end
end Go.Proofs.YtpfinkdpaomliaaGreat
