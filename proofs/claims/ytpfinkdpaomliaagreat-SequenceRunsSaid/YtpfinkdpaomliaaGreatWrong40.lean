/-
  'wrong' of the package: the index of the first stop that is not valid, and whether there is one.
-/
import Derived.Test.YtpfinkdpaomliaaGreatWrong
import Derived.Test.YtpfinkdpaomliaaGreatMapV
namespace Go.Proofs.YtpfinkdpaomliaaGreat
open Go.RowKit Go.Maps

def idsTo (l : List Stop) (i : Nat) : List Int := ((List.range i).map fun k => (l.getD k stopD).1).reverse
theorem idsTo_next (l : List Stop) (i : Nat) : idsTo l (i + 1) = (l.getD i stopD).1 :: idsTo l i := by
  unfold idsTo
  rw [List.range_succ, List.map_append, List.reverse_append]
  rfl
theorem idsTo_met (l : List Stop) (i : Nat) : (idsTo l i).contains (l.getD i stopD).1 = metAt l i := by
  unfold idsTo metAt
  rw [Bool.eq_iff_iff]
  simp only [List.contains_iff_mem, List.mem_reverse, List.mem_map, List.mem_range, List.any_eq_true, beq_iff_eq]
/-- A set of integers, as a map to Booleans holds it. -/
def setG (ids : List Int) : Int → Option Value := fun x => if ids.contains x then some (.bool true) else none
theorem setG_look (ids : List Int) (x : Int) : (setG ids x).getD (.bool false) = .bool (ids.contains x) := by
  unfold setG
  cases ids.contains x <;> rfl
theorem setG_put (ids : List Int) (x : Int) : ∀ y, putI (setG ids) x (.bool true) y = setG (x :: ids) y := by
  intro y
  unfold putI setG
  by_cases e : y = x
  · subst e; simp
  · simp [e]
theorem zeroB (w : World) : (zeroValue 4).run Tryz.prog w = .ok (.bool false) w := by kernel_rfl

def wrongT (o : Option Nat) : Value := match o with
  | some i => .tuple #[.int .i64 (i : Int), .bool true]
  | none => .tuple #[.int .i64 0, .bool false]
def Rw40 (l : List Stop) (n : Nat) (w : World) (u12 : Value) (wr : World) : Prop :=
  ∃ i : Nat, i ≤ n ∧ u12 = .int .i64 i ∧ (∀ j, j < i → wrongAt l j = false) ∧ MapI Tryz.prog 3 wr w.heap.size i (setG (idsTo l i)) ∧ Below w.heap.size w wr

set_option maxRecDepth 100000 in
set_option maxHeartbeats 1000000 in
theorem wrong_any (w : World) (ao : Option Addr) (n c : Nat) (l : List Stop) (h : Stops w ao n l) (hn : n ≤ 1048576) :
    Calls Tryz.prog 40 #[.slice ao n c] w fun e w' => e = .returned (wrongT (wrongP l)) ∧ Below w.heap.size w w' := by
  have Hl := Lib.hid h.len
  have hmm := fun w => run_makeMap_n (P := Tryz.prog) 170 3 4 Tryz.underlying170 n w
  have hb0 : Below w.heap.size w (w.alloc (.map #[] 0)) := (Below.refl _ _).alloc (Nat.le_refl _) _
  have hs0 : MapI Tryz.prog 3 (w.alloc (.map #[] 0)) w.heap.size 0 (setG (idsTo l 0)) := (MapI.made _ _ w).congr fun x => rfl
  go_enter Tryz.func40, Tryz.ntmps40
  go_wp2_with fail
  go_loopw [12] (Rw40 l n w) (fun u12 _ => n - (intOf u12).toNat)
  case atStart => exact ⟨0, Nat.zero_le _, rfl, fun j hj => absurd hj (by omega), hs0, hb0⟩
  case round =>
    clear hb0 hs0
    obtain ⟨i, hi, rfl, hall, hset, hb⟩ := hrel
    have Hall := Lib.hid hall
    clear hall
    by_cases hlt : i < n
    · obtain ⟨g, off, rfl, hg, hc0, hc1⟩ := h.at hlt
      have e0 : wr.cell? ⟨g, off + i * 2, none⟩ = some (.int .i64 (l.getD i stopD).1) := (hb.cell (p := ⟨g, off + i * 2, none⟩) hg).trans hc0
      have e1 : wr.cell? ⟨g, off + i * 2 + 1, none⟩ = some (.int .i64 (l.getD i stopD).2) := (hb.cell (p := ⟨g, off + i * 2 + 1, none⟩) hg).trans hc1
      clear hc0 hc1
      have Hmet := Lib.hid (idsTo_met l i)
      have Hnext := Lib.hid (idsTo_next l i)
      have Hw : Hid (badStop (l.getD i stopD).1 (l.getD i stopD).2 = true ∨ metAt l i = true → wrongP l = some i) := by
        intro hx
        refine wrongP_some (by rw [Hl.out]; exact hlt) ?_ Hall.out
        unfold wrongAt
        rcases hx with hx | hx
        · rw [hx, Bool.true_or]
        · rw [hx, Bool.or_true]
      have Hn : Hid (badStop (l.getD i stopD).1 (l.getD i stopD).2 = false → metAt l i = false → wrongAt l i = false) := by
        intro h1 h2
        unfold wrongAt
        rw [h1, h2]; rfl
      generalize l.getD i stopD = x at *
      obtain ⟨id, vol⟩ := x
      have hsz := hb.size
      have hb1 : Below w.heap.size w (wr.alloc (.cells #[.int .i64 id, .int .i64 vol] 43)) := hb.alloc hsz _
      have hset1 := hset.alloc (.cells #[.int .i64 id, .int .i64 vol] 43)
      rcases bad_cases id vol with ⟨e, q1, q2, q3, q4⟩ | ⟨e, q1⟩ | ⟨e, q1, q2⟩ | ⟨e, q1, q2, q3⟩ | ⟨e, q1, q2, q3, q4⟩
      · have E := Lib.hid e
        clear e
        have hlk := hset1.look Tryz.underlying3 Tryz.underlying170 (zeroB _) (x := id) (wf_i64 (by omega) (by omega))
        rw [setG_look] at hlk
        generalize hm : (idsTo l i).contains id = m at hlk
        have Hm := Lib.hid hm
        clear hm
        cases m with
        | true =>
          have E2 := Lib.hid (Hw.out (.inr (Hmet.out.symm.trans Hm.out)))
          go_wp2_with fail
          go_ret2
          exact ⟨by rw [E2.out]; rfl, hb1⟩
        | false =>
          have E2 := Lib.hid (Hn.out E.out (Hmet.out.symm.trans Hm.out))
          go_wp2_with (at_mapUpdate; refine wpList_mapUpdate_I _ rfl _ _ _ 170 rfl 3 4 Tryz.underlying3 Tryz.underlying170 w.heap.size i (setG (idsTo l i)) rfl hset1 (by unfold maxLen; omega) id (.bool true) rfl rfl (wf_i64 (by omega) (by omega)) ?_)
          intro w1 hset2 hgr
          have hb2 : Below w.heap.size w w1 := hb1.grown hgr hb1.size (fun g hg => by cases hg; exact Nat.le_refl _)
          have hset3 : MapI Tryz.prog 3 w1 w.heap.size (i + 1) (setG (idsTo l (i + 1))) := by rw [Hnext.out]; exact hset2.congr (setG_put _ _)
          clear hset hset1 hset2 hgr hb hb1 hlk
          go_wp2_with fail
          go_roundw
          case rel => exact ⟨i + 1, hlt, by go_num, fun j hj => (by
            by_cases e : j = i
            · subst e; exact E2.out
            · exact Hall.out j (by omega)), hset3, hb2⟩
          case measure => simp [intOf] <;> omega
      all_goals
        have E := Lib.hid (Hw.out (.inl e))
        clear e
        go_wp2_with fail
        go_ret2
        exact ⟨by rw [E.out]; rfl, hb1⟩
    · obtain rfl : i = n := by omega
      have E : Hid (wrongP l = none) := wrongP_none (fun j hj => Hall.out j (by rw [Hl.out] at hj; exact hj))
      go_wp2_with fail
      go_ret2
      exact ⟨by rw [E.out]; rfl, hb⟩
end Go.Proofs.YtpfinkdpaomliaaGreat
