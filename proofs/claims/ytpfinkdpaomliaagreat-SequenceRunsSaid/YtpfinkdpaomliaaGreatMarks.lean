/-
  Several loops over iterators in one call, one behind the other: the marks that they leave among the deferred calls.
-/
import Derived.RangeFuncNested
import Derived.RangeFuncLeaves
import Derived.Test.YtpfinkdpaomliaaGreatLists
import Derived.OwnWalkIn
namespace Go.Proofs.YtpfinkdpaomliaaGreat
open Go.RowKit

theorem wpListIn_append_sl {F : Fence} {nf : Nat} {P : Program} (w : World) {ops : Array Oper} {rest : List Oper} {o : Oper} {a : Act} {Q : Exit → Act → World → Prop} (hgd : o.guard = none) (s x : Operand) (t : TypeId)
    (ho : o.op = .call { callee := .builtin .append, args := #[s, x], argTypes := #[t, t] })
    (e : TypeId) (i : TypeInfo) (z : Value) (size bytes : Nat) (ht : P.underlying t = some (.slice e)) (hi : P.info? e = some i) (hz : i.zero = some z)
    (hsize : i.size = size) (hby : i.bytes = bytes) (hzs : z.cells.size = size)
    {ao : Option Addr} {n cap : Nat} {f : Nat → Value} (hs : a.eval s = .slice ao n cap) (h : Sl w e size ao n cap f)
    (ad : Addr) (m c : Nat) (news : List Value) (hx : a.eval x = .slice (some ad) m c) (hl : news.length = m * size) (hnews : ∀ j u, news[j]? = some u → w.cell? (ad.add j) = some u) (h1 : ∀ u ∈ news, u.oneCell' = true)
    (h63 : n + m ≤ maxLen) (hbytes : (n + m) * bytes ≤ 140737488355328)
    (hk : ∀ ao' cap' w', Appended w w' e size ao n cap ao' (n + m) cap' (fun j => if j < n * size then f j else news.getD (j - n * size) undef) → wpListIn F nf P ops Q rest (a.put o.dst (.slice ao' (n + m) cap')) w') :
    wpListIn F nf P ops Q (o :: rest) a w := by
  refine wpListIn_plain hgd fun K hK => ?_
  obtain ⟨ao', cap', w', hr, h2⟩ := run_append_sl (P := P) w t o.type e i z size bytes ht hi hz hsize hby hzs h ad m c news hl hnews h1 h63 hbytes
  unfold Oper.wpIn
  refine ⟨?_, ?_⟩
  · simp [Oper.about, ho, resolve, Target.leads, Sem.run_pure]
  · rw [Oper.semAt_plain F _ _ (by rw [ho]; intro c hc'; cases hc')]
    unfold execOp
    simp only [ho, resolve, invoke, builtin, Sem.run_bind, Sem.run_pure, Result.andThen_ok, List.map_toArray, List.map_cons, List.map_nil, hs, hx, hr]
    exact hK _ _ (hk ao' cap' w' h2)
theorem set4_block {w : World} {b : Nat} {a0 a1 a2 a3 : Value} {t : TypeId} (h : w.heap[b]? = some (.cells #[a0, a1, a2, a3] t (0, 0))) (v0 v1 v2 v3 : Value) :
    ((((w.setCell ⟨b, 0, none⟩ v0).setCell ⟨b, 1, none⟩ v1).setCell ⟨b, 2, none⟩ v2).setCell ⟨b, 3, none⟩ v3).heap[b]? = some (.cells #[v0, v1, v2, v3] t (0, 0)) := by
  simp [World.setCell, Array.getElem?_modify, h]
theorem one_put {w : World} {b : Nat} {v : Value} {t : TypeId} (h : w.heap[b]? = some (.cells #[v] t (0, 0))) (u : Value) : (w.setCell ⟨b, 0, none⟩ u).heap[b]? = some (.cells #[u] t (0, 0)) := by
  simp [World.setCell, Array.getElem?_modify, h]
theorem one_at {w : World} {b : Nat} {v : Value} {t : TypeId} (h : w.heap[b]? = some (.cells #[v] t (0, 0))) : w.cell? ⟨b, 0, none⟩ = some v ∧ w.frozen? ⟨b, 0, none⟩ = false := by
  simp [World.cell?, World.frozen?, h]
/-- A piece of code that goes on, whatever else its post allows. -/
def nrm (Q : Exit → Act → World → Prop) : Exit → Act → World → Prop
  | .normal, a, w => Q .normal a w
  | _, _, _ => False
theorem wpIn_nrm {F : Fence} {n : Nat} {P : Program} {c : Code} {Q : Exit → Act → World → Prop} {a : Act} {w : World} (h : c.wpIn F n P (nrm Q) a w) : c.wpIn F n P Q a w :=
  wpIn_mono h (fun e a w h => by cases e <;> first | exact h | exact h.elim)
def marksOf (Ds : List Nat) : List Deferred := Ds.map fun D => { target := .collected D, args := #[] }
/-- The world behind the taking over of all marks' blocks. -/
def shut (w : World) : List Nat → World
  | [] => w
  | D :: Ds => shut (w.putObj D (.deferred none)) Ds

def Marked (w : World) (Ds : List Nat) : Prop := ∀ D ∈ Ds, w.heap[D]? = some (.deferred (some []))
theorem shut_other : ∀ (Ds : List Nat) (w : World) (g : Nat), g ∉ Ds → (shut w Ds).heap[g]? = w.heap[g]?
  | [], _, _, _ => rfl
  | D :: Ds, w, g, h => by
    show (shut (w.putObj D (.deferred none)) Ds).heap[g]? = _
    have hne : g ≠ D := fun e => h (by subst e; exact List.mem_cons_self ..)
    rw [shut_other Ds _ g (fun hx => h (List.mem_cons_of_mem _ hx)), World.putObj_heap_other hne]
theorem shut_cells {w : World} {Ds : List Nat} (h : Marked w Ds) {g : Nat} {o : Obj} (hg : w.heap[g]? = some o) (ho : o.isCells = true) : (shut w Ds).heap[g]? = w.heap[g]? := by
  refine shut_other Ds w g fun hx => ?_
  have := h g hx
  rw [this] at hg
  cases hg
  cases ho
theorem shut_below {B : Nat} : ∀ (Ds : List Nat) (w : World), (∀ D ∈ Ds, B ≤ D) → Marked w Ds → Ds.Nodup → Below B w (shut w Ds)
  | [], w, _, _, _ => Below.refl _ _
  | D :: Ds, w, hB, hm, hn => by
    have hD := hm D (List.mem_cons_self ..)
    have h1 : Below B w (w.putObj D (.deferred none)) := (Below.refl B w).grown (grownBy_putObj' w D _) (by have := (Array.getElem?_eq_some_iff.1 hD).1; have := hB D (List.mem_cons_self ..); omega) (fun g e => by cases e; exact hB _ (List.mem_cons_self ..))
    refine h1.trans (shut_below Ds _ (fun D' hD' => hB D' (List.mem_cons_of_mem _ hD')) (fun D' hD' => ?_) (List.nodup_cons.1 hn).2)
    have hne : D' ≠ D := fun e => (List.nodup_cons.1 hn).1 (by subst e; exact hD')
    rw [World.putObj_heap_other hne]
    exact hm D' (List.mem_cons_of_mem _ hD')
theorem leaves_marks {P : Program} {F : Fence} {n : Nat} {fn : Func} {tmps : Array Value} {R : Ending → World → Prop} : ∀ (Ds : List Nat) (w : World), Marked w Ds → Ds.Nodup →
    (∃ v, (results fn tmps).run P (shut w Ds) = .ok v (shut w Ds) ∧ R (.returned v) (shut w Ds)) → LeavesInM F n P fn tmps R (marksOf Ds) .returning w
  | [], _, _, _, h => h
  | D :: Ds, w, hm, hn, h => by
    refine ⟨by simp, .inl ⟨D, w.putObj D (.deferred none), rfl, run_takeDeferred (hm D (List.mem_cons_self ..)), ?_⟩⟩
    refine leaves_marks Ds _ (fun D' hD' => ?_) (List.nodup_cons.1 hn).2 h
    have hne : D' ≠ D := fun e => (List.nodup_cons.1 hn).1 (by subst e; exact hD')
    rw [World.putObj_heap_other hne]
    exact hm D' (List.mem_cons_of_mem _ hD')

theorem Sl.cells_at {w : World} {e : TypeId} {size n cap : Nat} {ao : Option Addr} {f : Nat → Value} (h : Sl w e size ao n cap f) : ∀ g, rowOf ao cap = some g → ∃ cur, w.heap[g]? = some (.cells cur e (0, 0)) := by
  intro g hg
  unfold rowOf at hg
  split at hg
  · cases hg
  · rename_i h0
    rcases h.2.2 with h1 | ⟨g', cur, rfl, hh, _⟩
    · exact absurd h1 h0
    · simp at hg; subst hg; exact ⟨cur, hh⟩
theorem Sl.shut {w : World} {e : TypeId} {size n cap : Nat} {ao : Option Addr} {f : Nat → Value} (h : Sl w e size ao n cap f) {Ds : List Nat} (hm : Marked w Ds) : Sl (shut w Ds) e size ao n cap f :=
  h.keep fun g hg => by
    obtain ⟨cur, hc⟩ := h.cells_at g hg
    exact shut_cells hm hc rfl
theorem OwnI.shut {B n cap : Nat} {w : World} {ao : Option Addr} {xs : List Int} (h : OwnI B w ao n cap xs) {Ds : List Nat} (hm : Marked w Ds) : OwnI B (shut w Ds) ao n cap xs := ⟨h.sl.shut hm, h.len, h.row⟩
theorem OwnL.shut {α : Type} {size : Nat} {enc : α → List Value} {d : α} {e : TypeId} {B n cap : Nat} {w : World} {ao : Option Addr} {l : List α} (h : OwnL size enc d e B w ao n cap l) {Ds : List Nat} (hm : Marked w Ds) :
    OwnL size enc d e B (Go.Proofs.YtpfinkdpaomliaaGreat.shut w Ds) ao n cap l := ⟨h.sl.shut hm, h.len, h.row⟩
theorem Marked.below {B : Nat} {w w' : World} {Ds : List Nat} (h : Marked w Ds) (hb : Below B w w') (hB : ∀ D ∈ Ds, D < B) : Marked w' Ds := fun D hD => (hb.block D (hB D hD)).trans (h D hD)
theorem Marked.lt {w : World} {Ds : List Nat} (h : Marked w Ds) : ∀ D ∈ Ds, D < w.heap.size := fun D hD => (Array.getElem?_eq_some_iff.1 (h D hD)).1
theorem Marked.cells {w : World} {Ds : List Nat} (h : Marked w Ds) {b : Nat} {o : Obj} (hb : w.heap[b]? = some o) (ho : o.isCells = true) (u : Value) (off : Nat) : Marked (w.setCell ⟨b, off, none⟩ u) Ds := by
  intro D hD
  have hne : D ≠ b := fun e => by subst e; have := h D hD; rw [this] at hb; cases hb; cases ho
  rw [Below.heap_setCell w ⟨b, off, none⟩ u D hne]
  exact h D hD
theorem Marked.set4 {w : World} {Ds : List Nat} (h : Marked w Ds) {b : Nat} {a0 a1 a2 a3 : Value} {t : TypeId} (hb : w.heap[b]? = some (.cells #[a0, a1, a2, a3] t (0, 0))) (v0 v1 v2 v3 : Value) :
    Marked ((((w.setCell ⟨b, 0, none⟩ v0).setCell ⟨b, 1, none⟩ v1).setCell ⟨b, 2, none⟩ v2).setCell ⟨b, 3, none⟩ v3) Ds := by
  intro D hD
  have hne : D ≠ b := fun e => by subst e; have := h D hD; rw [this] at hb; cases hb
  rw [Below.heap_setCell _ ⟨b, 3, none⟩ v3 D hne, Below.heap_setCell _ ⟨b, 2, none⟩ v2 D hne, Below.heap_setCell _ ⟨b, 1, none⟩ v1 D hne, Below.heap_setCell _ ⟨b, 0, none⟩ v0 D hne]
  exact h D hD
end Go.Proofs.YtpfinkdpaomliaaGreat
