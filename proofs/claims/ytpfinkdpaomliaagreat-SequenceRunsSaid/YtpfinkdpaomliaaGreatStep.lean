/-
  append to a slice of the call's own as a step of a region that draws its order.
-/
import Derived.Test.YtpfinkdpaomliaaGreatLists
import Derived.Deep.RegionHeld3
import Derived.Deep.AppendLies
namespace Go.Proofs.YtpfinkdpaomliaaGreat
open Go.RowKit

theorem step_append_sl {P : Program} {w : World} {ops : Array Oper} {o : Oper} {a : Act} {K : Act → World → Prop} {Q : Exit → Act → World → Prop} {E : Prop} (hgd : o.guard = none) (s x : Operand) (t : TypeId)
    (ho : o.op = .call { callee := .builtin .append, args := #[s, x], argTypes := #[t, t] })
    (e : TypeId) (i : TypeInfo) (z : Value) (size bytes : Nat) (ht : P.underlying t = some (.slice e)) (hi : P.info? e = some i) (hz : i.zero = some z)
    (hsize : i.size = size) (hby : i.bytes = bytes) (hzs : z.cells.size = size)
    {ao : Option Addr} {n cap : Nat} {f : Nat → Value} (hs : a.eval s = .slice ao n cap) (h : Sl w e size ao n cap f)
    (ad : Addr) (m c : Nat) (news : List Value) (hx : a.eval x = .slice (some ad) m c) (hl : news.length = m * size) (hnews : ∀ j u, news[j]? = some u → w.cell? (ad.add j) = some u) (h1 : ∀ u ∈ news, u.oneCell' = true)
    (h63 : n + m ≤ maxLen) (hbytes : (n + m) * bytes ≤ 140737488355328)
    (hk : ∀ ao' cap' w', Appended w w' e size ao n cap ao' (n + m) cap' (fun j => if j < n * size then f j else news.getD (j - n * size) undef) → K (a.put o.dst (.slice ao' (n + m) cap')) w') :
    if Region.wanted o (yielded ops a.tmps) = true then Oper.wp P o a w K Q else E := by
  have hw : Region.wanted o (yielded ops a.tmps) = true := by simp [Region.wanted, hgd]
  rw [if_pos hw]
  obtain ⟨ao', cap', w', hr, h2⟩ := run_append_sl (P := P) w t o.type e i z size bytes ht hi hz hsize hby hzs h ad m c news hl hnews h1 h63 hbytes
  unfold Oper.wp execOp
  simp only [ho, resolve, invoke, builtin, Sem.run_bind, Sem.run_pure, Result.andThen_ok, List.map_toArray, List.map_cons, List.map_nil, hs, hx, hr]
  exact hk ao' cap' w' h2
theorem Appended.cell_far {w w' : World} {e size n cap n' cap' : Nat} {ao ao' : Option Addr} {f : Nat → Value} (h : Appended w w' e size ao n cap ao' n' cap' f) {B g o : Nat} (hB : B ≤ w.heap.size) (hg : g < B) (hr : ∀ g, rowOf ao cap = some g → B ≤ g) :
    w'.cell? ⟨g, o, none⟩ = w.cell? ⟨g, o, none⟩ :=
  h.grown.cell_far ⟨g, o, none⟩ (by show g < _; omega) (fun hx => by have := hr g hx.symm; omega)
end Go.Proofs.YtpfinkdpaomliaaGreat
