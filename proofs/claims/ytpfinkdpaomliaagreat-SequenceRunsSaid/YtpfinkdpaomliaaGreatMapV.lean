/-
  A map that the call makes, whatever its elements: what it holds at each key, as a function of the key.
-/
import Derived.Test.YtpfinkdpaomliaaGreatFlatLib
import Derived.Maps.Own
import Derived.Maps.OwnSet
import Derived.Maps.Views
namespace Go.Proofs.YtpfinkdpaomliaaGreat
open Go.RowKit Go.Maps

def heldR (v : Value) : Option (DataW Value × List MemPlace) := some (.held v, [])
def heldO (o : Option Value) (z : DataW Value) : DataW Value := match o with
  | some v => .held v
  | none => z

/-- Block b is a map of at most n entries, which holds at each key what 'f' says. -/
def MapV (P : Program) (k : TypeId) (w : World) (b n : Nat) (f : Lit → Option Value) : Prop :=
  ∃ D : DataW Value, w.ownsMap P k heldR b n D ∧ IsMap D ∧ ∀ x, WideAt.IsKeyLit x → has D x = (f x).isSome ∧ ∀ z, D.atKey x z = heldO (f x) z

section
variable {P : Program} {k : TypeId} {w w' : World} {b n : Nat} {f : Lit → Option Value}

theorem MapV.made (P : Program) (k : TypeId) (w : World) : MapV P k (w.alloc (.map #[] 0)) w.heap.size 0 (fun _ => none) :=
  ⟨_, World.ownsMap_made w _ _ _, isMap_empty, fun _ _ => ⟨rfl, fun _ => rfl⟩⟩
theorem MapV.mono (h : MapV P k w b n f) {m : Nat} (hm : n ≤ m) : MapV P k w b m f := by
  obtain ⟨D, h1, h2⟩ := h
  exact ⟨D, h1.mono hm, h2⟩
theorem MapV.congr (h : MapV P k w b n f) {g : Lit → Option Value} (hg : ∀ x, WideAt.IsKeyLit x → f x = g x) : MapV P k w b n g := by
  obtain ⟨D, h1, h2, h3⟩ := h
  exact ⟨D, h1, h2, fun x hx => by rw [← hg x hx]; exact h3 x hx⟩
theorem MapV.lt (h : MapV P k w b n f) : b < w.heap.size := by
  obtain ⟨D, h1, _⟩ := h
  exact h1.lt
theorem MapV.kept (h : MapV P k w b n f) {row : Option Nat} (hg : w.grownBy w' row) (hne : some b ≠ row) : MapV P k w' b n f := by
  obtain ⟨D, h1, h2⟩ := h
  exact ⟨D, h1.kept hg hne, h2⟩
theorem MapV.alloc (h : MapV P k w b n f) (o : Obj) : MapV P k (w.alloc o) b n f := h.kept (World.grownBy_alloc w o none) (by simp)
theorem MapV.drew (h : MapV P k w b n f) : MapV P k w.drew b n f := h
theorem MapV.drewN (h : MapV P k w b n f) (m : Nat) : MapV P k (w.drewN m) b n f := h.kept (grownBy_drewN (World.grownBy.refl w none) m) (by simp)
theorem MapV.below (h : MapV P k w b n f) (hb : Below w.heap.size w w') : MapV P k w' b n f := h.kept (grownBy_of_below hb none) (by simp)

/-- 'm[x]' -/
theorem MapV.look (h : MapV P k w b n f) (K : Keyed P k) {t e : TypeId} (ht : P.underlying t = some (.map k e)) {z : Value} (hz : (zeroValue e).run P w = .ok z w) {key : Value} {x : Lit} (hx : keyOf P k key = some x) (hk : WideAt.IsKeyLit x) :
    (Instr.lookup t (.map (some b)) key false).run P w = .ok ((f x).getD z) w := by
  obtain ⟨D, h1, h2, h3⟩ := h
  obtain ⟨v, ps, hr, hv⟩ := h1.lookup K ht hz (zd := .held z) (zp := []) rfl hx
  have h4 := (h3 x hk).2 (.held z)
  rw [h4] at hv
  rw [hr]
  unfold heldR heldO at hv
  cases hf : f x with
  | none => rw [hf] at hv; simp at hv; rw [hv.1]; rfl
  | some u => rw [hf] at hv; simp at hv; rw [hv.1]; rfl
/-- 'v, ok := m[x]' -/
theorem MapV.look_ok (h : MapV P k w b n f) (K : Keyed P k) {t e : TypeId} (ht : P.underlying t = some (.map k e)) {z : Value} (hz : (zeroValue e).run P w = .ok z w) {key : Value} {x : Lit} (hx : keyOf P k key = some x) (hk : WideAt.IsKeyLit x) :
    (Instr.lookup t (.map (some b)) key true).run P w = .ok (.tuple #[(f x).getD z, .bool (f x).isSome]) w := by
  obtain ⟨D, h1, h2, h3⟩ := h
  obtain ⟨v, ps, hr, hv⟩ := h1.look_ok K ht hz (zd := .held z) (zp := []) rfl hx
  have h4 := (h3 x hk).2 (.held z)
  have h5 := (h3 x hk).1
  rw [h4] at hv
  rw [hr, h5]
  unfold heldR heldO at hv
  cases hf : f x with
  | none => rw [hf] at hv; simp at hv; rw [hv.1]; rfl
  | some u => rw [hf] at hv; simp at hv; rw [hv.1]; rfl

open Classical in
noncomputable def putAt (f : Lit → Option Value) (x : Lit) (v : Value) : Lit → Option Value := fun y => if y = x then some v else f y
theorem mapV_put {D : DataW Value} (h2 : IsMap D) (h3 : ∀ x, WideAt.IsKeyLit x → has D x = (f x).isSome ∧ ∀ z, D.atKey x z = heldO (f x) z) (x : Lit) (hk : WideAt.IsKeyLit x) (v : Value) :
    ∀ y, WideAt.IsKeyLit y → has (D.put x (.held v)) y = (putAt f x v y).isSome ∧ ∀ z, (D.put x (.held v)).atKey y z = heldO (putAt f x v y) z := by
  intro y hy
  unfold putAt
  by_cases e : y = x
  · subst e
    rw [if_pos rfl]
    exact ⟨has_put_same h2 hk _, fun z => atKey_put_same h2 hk _ z⟩
  · rw [if_neg e]
    exact ⟨(has_put_other e _).trans (h3 y hy).1, fun z => (atKey_put_other e _ z).trans ((h3 y hy).2 z)⟩
/-- 'm[x] = v' -/
theorem MapV.put (h : MapV P k w b n f) (K : Keyed P k) {t e : TypeId} (ht : P.underlying t = some (.map k e)) (hn : n < maxLen) {key v : Value} {x : Lit} (hx : keyOf P k key = some x) (hk : WideAt.IsKeyLit x) :
    ∃ w', (Instr.mapUpdate t (.map (some b)) key v).run P w = .ok () w' ∧ MapV P k w' b (n + 1) (putAt f x v) ∧ w.grownBy w' (some b) := by
  obtain ⟨D, h1, h2, h3⟩ := h
  obtain ⟨w', hr, h4, h5⟩ := h1.update K ht hn (val := v) hx (d := .held v) (ps := []) rfl
  exact ⟨w', hr, ⟨_, h4, h2.put _ _, mapV_put h2 h3 x hk v⟩, h5⟩
end

/-- The store as a law of the walk. -/
theorem wpList_mapUpdate_V {P : Program} (w : World) {ops : Array Oper} {rest : List Oper} {o : Oper} {a : Act} {Q : Exit → Act → World → Prop}
    (hg : o.guard = none) (m x v : Operand) (t : TypeId) (hop : o.op = Op.mapUpdate t m x v)
    (k e : TypeId) (K : Keyed P k) (ht : P.underlying t = some (.map k e)) (b n : Nat) (f : Lit → Option Value)
    (hm : a.eval m = .map (some b)) (hown : MapV P k w b n f) (hn : n < maxLen) (key val : Value) (kl : Lit) (hx : a.eval x = key) (hv : a.eval v = val) (hkey : keyOf P k key = some kl) (hkl : WideAt.IsKeyLit kl)
    (hK : ∀ w', MapV P k w' b (n + 1) (putAt f kl val) → w.grownBy w' (some b) → wpList P ops Q rest (a.put o.dst undef) w') :
    wpList P ops Q (o :: rest) a w := by
  refine wpList_plain hg fun K' hK' => ?_
  obtain ⟨w', hrun, r1, r2⟩ := hown.put K ht hn (v := val) hkey hkl
  unfold Oper.wp
  simp [execOp, hop, hm, hx, hv, hrun, Result.andThen]
  exact hK' _ _ (hK w' r1 r2)

theorem run_makeMap_n {P : Program} (t k e : TypeId) (ht : P.underlying t = some (.map k e)) (n : Nat) (w : World) : (Instr.makeMap t (some (.int .i64 (n : Int)))).run P w = .ok (.map (some w.heap.size)) (w.alloc (.map #[] 0)) := by
  simp [Instr.makeMap, run_underlying ht, asInt, asIntOf]
theorem isKey_int (x : Int) : WideAt.IsKeyLit (.int .i64 x) := by trivial

/-- A map whose keys are integers. -/
def intAt (g : Int → Option Value) : Lit → Option Value
  | .int .i64 x => g x
  | _ => none
def MapI (P : Program) (k : TypeId) (w : World) (b n : Nat) (g : Int → Option Value) : Prop := MapV P k w b n (intAt g)
def putI (g : Int → Option Value) (x : Int) (v : Value) : Int → Option Value := fun y => if y = x then some v else g y

section
variable {P : Program} {k : TypeId} {w w' : World} {b n : Nat} {g : Int → Option Value}
theorem MapI.made (P : Program) (k : TypeId) (w : World) : MapI P k (w.alloc (.map #[] 0)) w.heap.size 0 (fun _ => none) :=
  (MapV.made P k w).congr fun x _ => by unfold intAt; split <;> rfl
theorem MapI.mono (h : MapI P k w b n g) {m : Nat} (hm : n ≤ m) : MapI P k w b m g := MapV.mono h hm
theorem MapI.congr (h : MapI P k w b n g) {g' : Int → Option Value} (hg : ∀ x, g x = g' x) : MapI P k w b n g' := by
  have : g = g' := funext hg
  rw [← this]; exact h
theorem MapI.lt (h : MapI P k w b n g) : b < w.heap.size := MapV.lt h
theorem MapI.kept (h : MapI P k w b n g) {row : Option Nat} (hg : w.grownBy w' row) (hne : some b ≠ row) : MapI P k w' b n g := MapV.kept h hg hne
theorem MapI.alloc (h : MapI P k w b n g) (o : Obj) : MapI P k (w.alloc o) b n g := MapV.alloc h o
theorem MapI.drewN (h : MapI P k w b n g) (m : Nat) : MapI P k (w.drewN m) b n g := MapV.drewN h m
theorem MapI.below (h : MapI P k w b n g) (hb : Below w.heap.size w w') : MapI P k w' b n g := MapV.below h hb
theorem MapI.look (h : MapI P k w b n g) (hk : P.underlying k = some (.int .i64)) {t e : TypeId} (ht : P.underlying t = some (.map k e)) {z : Value} (hz : (zeroValue e).run P w = .ok z w) {x : Int} (hx : (Lit.int .i64 x).wf = true) :
    (Instr.lookup t (.map (some b)) (.int .i64 x) false).run P w = .ok ((g x).getD z) w :=
  MapV.look h (int_keyed hk) ht hz (keyOf_int_mk hk hx) (isKey_int x)
theorem MapI.look_ok (h : MapI P k w b n g) (hk : P.underlying k = some (.int .i64)) {t e : TypeId} (ht : P.underlying t = some (.map k e)) {z : Value} (hz : (zeroValue e).run P w = .ok z w) {x : Int} (hx : (Lit.int .i64 x).wf = true) :
    (Instr.lookup t (.map (some b)) (.int .i64 x) true).run P w = .ok (.tuple #[(g x).getD z, .bool (g x).isSome]) w :=
  MapV.look_ok h (int_keyed hk) ht hz (keyOf_int_mk hk hx) (isKey_int x)
theorem putAt_int (g : Int → Option Value) (x : Int) (v : Value) (y : Lit) : putAt (intAt g) (.int .i64 x) v y = intAt (putI g x v) y := by
  unfold putAt
  by_cases e : y = .int .i64 x
  · subst e; rw [if_pos rfl]; simp [intAt, putI]
  · rw [if_neg e]
    unfold intAt
    split
    · rename_i z
      have : z ≠ x := fun h => e (by rw [h])
      simp [putI, this]
    · rfl
end

theorem wpList_mapUpdate_I {P : Program} (w : World) {ops : Array Oper} {rest : List Oper} {o : Oper} {a : Act} {Q : Exit → Act → World → Prop}
    (hg : o.guard = none) (m x v : Operand) (t : TypeId) (hop : o.op = Op.mapUpdate t m x v)
    (k e : TypeId) (hk : P.underlying k = some (.int .i64)) (ht : P.underlying t = some (.map k e)) (b n : Nat) (g : Int → Option Value)
    (hm : a.eval m = .map (some b)) (hown : MapI P k w b n g) (hn : n < maxLen) (i : Int) (val : Value) (hx : a.eval x = .int .i64 i) (hv : a.eval v = val) (hwf : (Lit.int .i64 i).wf = true)
    (hK : ∀ w', MapI P k w' b (n + 1) (putI g i val) → w.grownBy w' (some b) → wpList P ops Q rest (a.put o.dst undef) w') :
    wpList P ops Q (o :: rest) a w :=
  wpList_mapUpdate_V w hg m x v t hop k e (int_keyed hk) ht b n (intAt g) hm hown hn (.int .i64 i) val (.int .i64 i) hx hv (keyOf_int_mk hk hwf) (isKey_int i)
    fun w' h1 h2 => hK w' (h1.congr fun y _ => putAt_int g i val y) h2
theorem wf_i64 {x : Int} (h1 : -9223372036854775808 ≤ x) (h2 : x ≤ 9223372036854775807) : (Lit.int .i64 x).wf = true := by
  have e1 : IntKind.i64.min = -9223372036854775808 := by decide
  have e2 : IntKind.i64.max = 9223372036854775807 := by decide
  simp [Lit.wf, e1, e2, h1, h2]
end Go.Proofs.YtpfinkdpaomliaaGreat
