/-
  A row's argument that is a plan, opened: its four lists.
-/
import Derived.Test.YtpfinkdpaomliaaGreatOpenL
import Derived.Test.YtpfinkdpaomliaaGreatOpens
import Derived.Test.YtpfinkdpaomliaaGreatCheckLaw
namespace Go.Proofs.YtpfinkdpaomliaaGreat
open Go.ChangeShapes Go.WideShapes Go.ChangeAt Go.RowKit Go.Deep

section
variable {H : Type} {enc : TypeId × Value → H} {W : World}
/-- A field that is one integer. -/
theorem int_field {t : TypeId} (ht : Tryz.prog.underlying t = some (.int .i64)) (hc : Tryz.prog.cellsOf t = 1) {n off : Nat} {cs : List Value} {y : DataW H × List MemPlace} (h : DataW.trod enc Tryz.prog W 0 (fun _ => true) true n t ((cs.drop off).take (Tryz.prog.cellsOf t)) = some y) (hl : off < cs.length) :
    ∃ x : Int, cs[off]? = some (.int .i64 x) ∧ (Lit.int .i64 x).wf = true := by
  rw [hc, List.drop_eq_getElem_cons hl] at h
  have h' : DataW.trod enc Tryz.prog W 0 (fun _ => true) true n t [cs[off]] = some y := h
  obtain ⟨x, e0, _, hw⟩ := DataW.trod_int ht h'
  refine ⟨x, ?_, hw⟩
  rw [List.getElem?_eq_getElem hl]
  simpa using e0
set_option maxRecDepth 100000 in
theorem seat_key : ∀ (n : Nat) (cs' : List Value) (y : DataW H × List MemPlace), DataW.trod enc Tryz.prog W 0 (fun _ => true) true n 64 cs' = some y → ∃ a : Seat, cs' = seatC a ∧ (Lit.int .i64 (Seat.stop a)).wf = true := by
  intro n cs y h
  obtain ⟨hl, hf⟩ := fields_of Tryz.underlying64 h
  rw [show Tryz.prog.cellsOf 64 = 4 by kernel_rfl] at hl
  have c3 : Tryz.prog.cellsOf 3 = 1 := by kernel_rfl
  obtain ⟨n0, y0, h0, _⟩ := hf 0 _ rfl
  obtain ⟨n1, y1, h1, _⟩ := hf 1 _ rfl
  obtain ⟨n2, y2, h2, _⟩ := hf 2 _ rfl
  obtain ⟨n3, y3, h3, _⟩ := hf 3 _ rfl
  obtain ⟨x0, e0, w0⟩ := int_field Tryz.underlying3 c3 h0 (by rw [hl]; decide)
  obtain ⟨x1, e1, _⟩ := int_field Tryz.underlying3 c3 h1 (by rw [hl]; decide)
  obtain ⟨x2, e2, _⟩ := int_field Tryz.underlying3 c3 h2 (by rw [hl]; decide)
  obtain ⟨x3, e3, _⟩ := int_field Tryz.underlying3 c3 h3 (by rw [hl]; decide)
  refine ⟨(x0, x1, x2, x3), ?_, w0⟩
  match cs, hl with
  | [a, b, c, d], _ =>
    simp at e0 e1 e2 e3
    subst e0 e1 e2 e3
    rfl
/-- One integer, as an element. -/
def intC (x : Int) : List Value := [.int .i64 x]
theorem intE : Enc 1 intC := ⟨by omega, fun _ => rfl, fun x u hu => by simp [intC] at hu; subst hu; rfl⟩
theorem int_key : ∀ (n : Nat) (cs' : List Value) (y : DataW H × List MemPlace), DataW.trod enc Tryz.prog W 0 (fun _ => true) true n 3 cs' = some y → ∃ a : Int, cs' = intC a ∧ (Lit.int .i64 a).wf = true := by
  intro n cs y h
  obtain ⟨x, e0, _, hw⟩ := DataW.trod_int Tryz.underlying3 h
  exact ⟨x, e0, hw⟩
theorem RdL.ints {w : World} {ao : Option Addr} {n : Nat} {l : List Int} (h : RdL 1 intC 0 w ao n l) : Ints w ao n l := ⟨h.rd.congr fun i _ => by unfold cellsF intF intC; rw [Nat.div_one, Nat.mod_one]; rfl, h.len⟩
set_option maxRecDepth 100000 in
theorem ints_cells {fuel : Nat} {cs : List Value} {x : DataW H × List MemPlace} (h : DataW.trod enc Tryz.prog W 0 (fun _ => true) true fuel 23 cs = some x) (hlt : ∀ p ∈ x.2, p.block < W.heap.size) : ∃ ao n c xs, cs = [.slice ao n c] ∧ Ints W ao n xs ∧ WfI xs ∧ n ≤ maxLen := by
  obtain ⟨ao, n, c, l, e, h1, h2, h3⟩ := list_open (dA := (0 : Int)) intE Tryz.underlying23 (by kernel_rfl) int_key h hlt
  exact ⟨ao, n, c, l, e, h1.ints, fun i hi => h2 i (by rw [← h1.len]; exact hi), h3⟩
set_option maxRecDepth 100000 in
theorem plan_open {v : Value} {d : DataW H} {ps : List MemPlace} {base : Nat} (h : DataW.Trod enc Tryz.prog W 0 (fun _ => true) true 36 v d ps) (hlt : ∀ p ∈ ps, p.block < W.heap.size) (hv : Value.okWide Tryz.prog W .any base 36 v) :
    ∃ a0 n0 c0 a1 n1 c1 a2 n2 c2 a3 n3 c3, ∃ p : PlanP, v = .agg #[.slice a0 n0 c0, .slice a1 n1 c1, .slice a2 n2 c2, .slice a3 n3 c3] ∧ Ints W a0 n0 p.caps ∧ Seats W a1 n1 p.seats ∧ Ints W a2 n2 p.first ∧ Ints W a3 n3 p.second ∧
      (∀ i, i < n1 → (Lit.int .i64 (Seat.stop (p.seats.getD i seatD))).wf = true) ∧ n0 ≤ maxLen ∧ n1 ≤ maxLen ∧ n2 ≤ maxLen ∧ n3 ≤ maxLen := by
  obtain ⟨ar, rfl, _⟩ := okWide_struct Tryz.underlying36 hv
  obtain ⟨fuel, hf⟩ := h
  obtain ⟨hl, hfs⟩ := fields_of Tryz.underlying36 hf
  rw [show Tryz.prog.cellsOf 36 = 4 by kernel_rfl] at hl
  have c23 : Tryz.prog.cellsOf 23 = 1 := by kernel_rfl
  have c34 : Tryz.prog.cellsOf 34 = 1 := by kernel_rfl
  obtain ⟨m0, y0, h0, q0⟩ := hfs 0 _ rfl
  obtain ⟨m1, y1, h1, q1⟩ := hfs 1 _ rfl
  obtain ⟨m2, y2, h2, q2⟩ := hfs 2 _ rfl
  obtain ⟨m3, y3, h3, q3⟩ := hfs 3 _ rfl
  obtain ⟨a0, n0, c0, l0, e0, i0, _, b0⟩ := ints_cells h0 (fun p hp => hlt p (q0 p hp))
  obtain ⟨a1, n1, c1, l1, e1, i1, w1, b1⟩ := list_open (dA := seatD) seatE Tryz.underlying34 (by kernel_rfl) seat_key h1 (fun p hp => hlt p (q1 p hp))
  obtain ⟨a2, n2, c2, l2, e2, i2, _, b2⟩ := ints_cells h2 (fun p hp => hlt p (q2 p hp))
  obtain ⟨a3, n3, c3, l3, e3, i3, _, b3⟩ := ints_cells h3 (fun p hp => hlt p (q3 p hp))
  refine ⟨a0, n0, c0, a1, n1, c1, a2, n2, c2, a3, n3, c3, ⟨l0, l1, l2, l3⟩, ?_, i0, i1, i2, i3, w1, b0, b1, b2, b3⟩
  obtain ⟨l⟩ := ar
  match l, hl with
  | [a, b, c, d], _ =>
    simp [c23, c34, Value.cells] at e0 e1 e2 e3
    subst e0 e1 e2 e3
    rfl
end
end Go.Proofs.YtpfinkdpaomliaaGreat
