/-
  'first', 'Short': the short word of the first row of a kind whose long word it is.
-/
import Derived.Test.YthpjkfcaabhdhaaGreatLongs
namespace Go.Proofs.YthpjkfcaabhdhaaGreat
open Go.RowKit

structure Zero3 (w : World) (b : Nat) : Prop where
  c0 : w.cell? ⟨b, 0, none⟩ = some (.int .u8 0)
  c1 : w.cell? ⟨b, 1, none⟩ = some (.string ByteArray.empty)
  c2 : w.cell? ⟨b, 2, none⟩ = some (.string ByteArray.empty)
  f : ∀ i, w.frozen? ⟨b, i, none⟩ = false
theorem Zero3.below {w w' : World} {b B : Nat} (h : Zero3 w b) (hb : Below B w w') (hlt : b < B) : Zero3 w' b :=
  ⟨(hb.cell (p := ⟨b, 0, none⟩) hlt).trans h.c0, (hb.cell (p := ⟨b, 1, none⟩) hlt).trans h.c1, (hb.cell (p := ⟨b, 2, none⟩) hlt).trans h.c2, fun i => (hb.frozen (p := ⟨b, i, none⟩) hlt).trans (h.f i)⟩

def Rf (p : Row → Bool) (w : World) (u9 : Value) (wr : World) : Prop :=
  ∃ k : Nat, k ≤ 40 ∧ u9 = .int .i64 k ∧ (∀ j, j < k → p (tab.getD j dflt) = false) ∧ Below w.heap.size w wr ∧ w.heap.size + 1 < wr.heap.size ∧ Zero3 wr (w.heap.size + 1)

set_option maxRecDepth 1000000 in
set_option maxHeartbeats 1000000 in
theorem first_any (w : World) (bk bw : Nat) (kind : Int) (word : ByteArray) (hk : w.cell? ⟨bk, 0, none⟩ = some (.int .u8 kind)) (hw : w.cell? ⟨bw, 0, none⟩ = some (.string word)) :
    Calls Tryz.prog 31 #[.agg rowsA, .func (.func 32) #[] #[.pointer (some ⟨bk, 0, none⟩), .pointer (some ⟨bw, 0, none⟩)]] w fun e w' =>
      e = .returned (rowV (firstL (shR kind word))) ∧ Below w.heap.size w w' := by
  have hlk : bk < w.heap.size := World.block_lt_of_cell? _ _ hk
  have hlw : bw < w.heap.size := World.block_lt_of_cell? _ _ hw
  have hb0 : Below w.heap.size w ((w.alloc (.cells rowsA 76)).alloc (.cells #[.int .u8 0, .string ByteArray.empty, .string ByteArray.empty] 72)) := ((Below.refl _ _).alloc (Nat.le_refl _) _).alloc (by simp) _
  have hz0 : Zero3 ((w.alloc (.cells rowsA 76)).alloc (.cells #[.int .u8 0, .string ByteArray.empty, .string ByteArray.empty] 72)) (w.heap.size + 1) :=
    ⟨by rw [World.cell?_alloc_at _ _ _ _ (by simp)]; rfl, by rw [World.cell?_alloc_at _ _ _ _ (by simp)]; rfl, by rw [World.cell?_alloc_at _ _ _ _ (by simp)]; rfl, fun i => World.frozen?_alloc_at _ _ _ _ (by simp)⟩
  have Hg0 : Hid (((w.alloc (.cells rowsA 76)).alloc (.cells #[.int .u8 0, .string ByteArray.empty, .string ByteArray.empty] 72)).heap[w.heap.size]? = some (.cells rowsA 76 (0, 0))) := (Below.heap_alloc (w.alloc (.cells rowsA 76)) _ w.heap.size (by simp)).trans (heap_alloc_new w _)
  go_enter Tryz.func31, Tryz.ntmps31
  go_wp2_with (refine wpList_load_row rfl 76 (.tmp 2) rfl w.heap.size rfl 76 rowsA (0, 0) _ Hg0.out und76 rfl (by kernel_rfl) ?_)
  go_loopw [9] (Rf (shR kind word) w) (fun u9 _ => 40 - (intOf u9).toNat)
  case atStart => exact ⟨0, by omega, rfl, fun j hj => absurd hj (by omega), hb0, by simp, hz0⟩
  case round =>
    clear hb0 hz0
    obtain ⟨k, hk40, rfl, hno, hb, hsz, hz⟩ := hrel
    have Hno := Lib.hid hno
    clear hno
    by_cases hlt : k < 40
    · have hidx := idx_rows k hlt
      generalize hr : tab.getD k dflt = r at hidx
      obtain ⟨r1, r2, r3⟩ := r
      simp only [rowV] at hidx
      have Hr := Lib.hid hr
      clear hr
      have hck : wr.cell? ⟨bk, 0, none⟩ = some (.int .u8 kind) := (hb.cell (p := ⟨bk, 0, none⟩) hlk).trans hk
      have hcw : wr.cell? ⟨bw, 0, none⟩ = some (.string word) := (hb.cell (p := ⟨bw, 0, none⟩) hlw).trans hw
      have hbk : bk < wr.heap.size := Nat.lt_of_lt_of_le hlk hb.size
      have hbw : bw < wr.heap.size := Nat.lt_of_lt_of_le hlw hb.size
      go_wp2_with fail
      refine (shortOf_any _ bk bw kind word r1 r2 r3 ((World.cell?_alloc_lt _ _ _ hbk).trans hck) ((World.cell?_alloc_lt _ _ _ hbw).trans hcw)).mono ?_
      rintro e w1 ⟨rfl, hb1⟩
      have hsz1 := hb1.size
      simp only [World.size_alloc] at hsz1
      have hc0 : w1.cell? ⟨wr.heap.size, 0, none⟩ = some (.int .u8 r1) := (hb1.cell (p := ⟨wr.heap.size, 0, none⟩) (by simp)).trans (by simp)
      have hc1 : w1.cell? ⟨wr.heap.size, 1, none⟩ = some (.string r2) := (hb1.cell (p := ⟨wr.heap.size, 1, none⟩) (by simp)).trans (by simp)
      have hc2 : w1.cell? ⟨wr.heap.size, 2, none⟩ = some (.string r3) := (hb1.cell (p := ⟨wr.heap.size, 2, none⟩) (by simp)).trans (by simp)
      have hzz : Zero3 (wr.alloc (.cells #[.int .u8 r1, .string r2, .string r3] 72)) (w.heap.size + 1) := hz.below (B := wr.heap.size) ((Below.refl _ _).alloc (Nat.le_refl _) _) hsz
      have hz1 : Zero3 w1 (w.heap.size + 1) := hzz.below hb1 (by simp; omega)
      have hbw1 : Below w.heap.size w w1 := (hb.alloc hb.size _).trans (hb1.mono (by simp; have := hb.size; omega))
      clear hz hzz hb hck hcw hb1 hidx
      cases hq : shR kind word (r1, r2, r3) with
      | true =>
        have hf := Lib.hid (firstL_hit (p := shR kind word) hlt Hno.out (by rw [Hr.out]; exact hq))
        obtain ⟨z0, z1, z2, zf⟩ := hz1
        have zf0 := zf 0
        have zf1 := zf 1
        have zf2 := zf 2
        clear zf
        go_wp2_with fail
        refine bodyPost_ret (v := .agg #[.int .u8 r1, .string r2, .string r3]) (by simp [results, Tryz.results31, go_sem, z0, z1, z2]) rfl ⟨?_, ?_⟩
        · rw [hf.out, Hr.out]; rfl
        · exact ((hbw1.setCell (by simp) _).setCell (by simp) _).setCell (by simp) _
      | false =>
        go_wp2_with fail
        go_roundw
        case rel => exact ⟨k + 1, by omega, by go_num, fun j hj => (by
          by_cases e : j = k
          · subst e; rw [Hr.out]; exact hq
          · exact Hno.out j (by omega)), hbw1, by omega, hz1⟩
        case measure => simp [intOf]; omega
    · obtain rfl : k = 40 := by omega
      have hf := Lib.hid (firstL_miss Hno.out)
      obtain ⟨z0, z1, z2, zf⟩ := hz
      have zf0 := zf 0
      have zf1 := zf 1
      have zf2 := zf 2
      clear zf
      go_wp2_with fail
      refine bodyPost_ret (v := .agg #[.int .u8 0, .string ⟨#[]⟩, .string ⟨#[]⟩]) (by simp [results, Tryz.results31, go_sem, z0, z1, z2, hsz]) rfl ⟨?_, ?_⟩
      · rw [hf.out]; rfl
      · exact ((((hb.setCell (by simp) _).setCell (by simp) _).setCell (by simp) _).alloc (by simp; exact hb.size) _)

/-- What Short returns. -/
def shortL (kind : Int) (word : ByteArray) : ByteArray × Bool :=
  let r := firstL (shR kind word)
  if r.1 == 0 && (r.2.1.toList.isEmpty && r.2.2.toList.isEmpty) then (ByteArray.empty, false) else (r.2.2, true)

set_option maxRecDepth 1000000 in
set_option maxHeartbeats 1000000 in
theorem Short_any (w : World) (kind : Int) (word : ByteArray) :
    Calls Tryz.prog 12 #[.int .u8 kind, .string word] w fun e w' => e = .returned (.tuple #[.string (shortL kind word).1, .bool (shortL kind word).2]) ∧ Below w.heap.size w w' := by
  have hmf : ∀ (fn : Fn) (first cap : Array Value) (w : World), (Instr.makeFunc fn first cap).run Tryz.prog w = .ok (.func fn first cap) w := fun _ _ _ _ => rfl
  have hb0 : Below w.heap.size w ((w.alloc (.cells #[.int .u8 kind] 5)).alloc (.cells #[.string word] 9)) := ((Below.refl _ _).alloc (Nat.le_refl _) _).alloc (by simp) _
  go_enter Tryz.func12, Tryz.ntmps12
  go_wp2_with fail
  refine (rows_any _).mono ?_
  rintro e w1 ⟨rfl, hb1⟩
  have hk1 : w1.cell? ⟨w.heap.size, 0, none⟩ = some (.int .u8 kind) := (hb1.cell (p := ⟨w.heap.size, 0, none⟩) (by simp; omega)).trans (by rw [World.cell?_alloc_past _ _ _ (by simp), World.cell?_alloc_at _ _ _ _ rfl]; rfl)
  have hw1 : w1.cell? ⟨w.heap.size + 1, 0, none⟩ = some (.string word) := (hb1.cell (p := ⟨w.heap.size + 1, 0, none⟩) (by simp)).trans (by rw [World.cell?_alloc_at _ _ _ _ (by simp)]; rfl)
  have hb01 : Below w.heap.size w w1 := hb0.trans (hb1.mono (by simp; omega))
  clear hb0 hb1
  go_wp2_with fail
  refine (first_any w1 w.heap.size (w.heap.size + 1) kind word hk1 hw1).mono ?_
  rintro e w2 ⟨rfl, hb2⟩
  have hb02 : Below w.heap.size w w2 := hb01.trans (hb2.mono hb01.size)
  have hB := hb02.size
  clear hk1 hw1 hb01 hb2
  generalize hr : firstL (shR kind word) = r
  obtain ⟨r1, r2, r3⟩ := r
  have hs : Hid (shortL kind word = if r1 == 0 && (r2.toList.isEmpty && r3.toList.isEmpty) then (ByteArray.empty, false) else (r3, true)) := by
    show shortL kind word = _
    unfold shortL
    rw [hr]
  have Hr := Lib.hid hr
  clear hr
  simp only [rowV]
  cases h1 : (r1 == 0) <;> by_cases h2 : r2.toList = [] <;> by_cases h3 : r3.toList = []
  all_goals
    have hfin := hs.out
    simp only [h1, h2, h3, List.isEmpty_nil, List.isEmpty_iff, Bool.and_true, Bool.and_false, Bool.true_and, Bool.false_and, Bool.and_eq_true, if_true, if_false, and_true, and_false, decide_false, Bool.false_eq_true, reduceCtorEq] at hfin
    have Hfin := Lib.hid hfin
    clear hfin
    go_wp2_with fail
    go_ret2
    rw [Hfin.out]
    exact ⟨rfl, by first | exact hb02.alloc hB _ | exact (hb02.alloc hB _).drew⟩
end Go.Proofs.YthpjkfcaabhdhaaGreat
