/-
  'Fold' returns the folded text.
-/
import Derived.Test.YthpjkfcaabhdhaaGreatBecomes
import Derived.Test.YthpjkfcaabhdhaaGreatMemSrc
import Derived.Test.YthpjkfcaabhdhaaGreatLongs
import Derived.Laws.IdiomStrings
namespace Go.Proofs.YthpjkfcaabhdhaaGreat
open Go.RowKit

def foldGo (l : List UInt8) : Nat → Nat → List UInt8 → Bool → List UInt8
  | 0, _, out, _ => out
  | fuel + 1, i, out, apart =>
    if i < l.length then
      if (bec l i).1 = [] then foldGo l fuel (i + (bec l i).2) out true
      else foldGo l fuel (i + (bec l i).2) ((if apart = true ∧ 0 < out.length then out ++ [32] else out) ++ (bec l i).1) false
    else out
def foldL (l : List UInt8) : List UInt8 := foldGo l l.length 0 [] false

theorem ite_len {c : Prop} [Decidable c] {a b : List UInt8} (ha : a.length ≤ 2) (hb : b.length ≤ 2) : (if c then a else b).length ≤ 2 := by
  split
  · exact ha
  · exact hb
theorem letS_le (s : Int) : (letS s).length ≤ 2 := by
  unfold letS
  repeat refine ite_len (by decide) ?_
  decide
theorem let2_le (f s : Int) : (let2 f s).length ≤ 2 := by
  unfold let2
  repeat' refine ite_len ?_ ?_
  all_goals first | exact letS_le _ | exact (by decide)
theorem bec_len (l : List UInt8) (i : Nat) (hi : i < l.length) : (bec l i).1.length ≤ 2 ∧ 1 ≤ (bec l i).2 ∧ i + (bec l i).2 ≤ l.length := by
  unfold bec
  simp only
  split
  · exact ⟨by simp, by simp, by simp; omega⟩
  · split
    · exact ⟨by simp, by simp, by simp; omega⟩
    · split
      · rename_i h
        exact ⟨let2_le _ _, by simp, by simp; omega⟩
      · exact ⟨by simp, by simp, by simp; omega⟩

def bytesF (l : List UInt8) : Nat → Value := fun j => .int .u8 ((l.getD j 0).toNat : Int)
/-- A slice of the call's own that reads as a list of bytes. -/
structure OwnB (B : Nat) (w : World) (ao : Option Addr) (cap : Nat) (l : List UInt8) : Prop where
  sl : Sl w 5 1 ao l.length cap (bytesF l)
  row : ∀ g, rowOf ao cap = some g → B ≤ g
  some_ : ∃ g, ao = some ⟨g, 0, none⟩

theorem ownB_app {w w1 : World} {B n : Nat} {ao ao' : Option Addr} {cap cap' : Nat} {l m : List UInt8} {news : List Value} (h : OwnB B w ao cap l) (hB : B ≤ w.heap.size) (hn : n = l.length + m.length)
    (hnews : news = m.map fun b => Value.int .u8 b.toNat)
    (ha : Appended w w1 5 1 ao l.length cap ao' n cap' (fun j => if j < l.length then bytesF l j else news[j - l.length]?.getD undef)) :
    OwnB B w1 ao' cap' (l ++ m) := by
  subst hnews hn
  refine ⟨?_, ?_, ?_⟩
  · rw [List.length_append]
    refine ha.sl.congr fun j hj => ?_
    by_cases hjn : j < l.length
    · rw [if_pos hjn]
      unfold bytesF
      simp only [List.getD_eq_getElem?_getD]
      rw [List.getElem?_append_left hjn]
    · rw [if_neg hjn]
      unfold bytesF
      simp only [List.getD_eq_getElem?_getD]
      rw [List.getElem?_append_right (by omega), List.getElem?_map, List.getElem?_eq_getElem (by omega)]
      rfl
  · intro g hg
    rcases ha.way with ⟨rfl, rfl, _, _⟩ | ⟨_, rfl, _, _⟩
    · exact h.row g hg
    · unfold rowOf at hg
      split at hg
      · cases hg
      · simp at hg
        omega
  · rcases ha.way with ⟨rfl, rfl, _, _⟩ | ⟨_, rfl, _, _⟩
    · exact h.some_
    · exact ⟨_, rfl⟩
theorem ownB_grown {w w1 : World} {B : Nat} {a : World} {ao ao' : Option Addr} {m n cap cap' : Nat} {l : List UInt8} {f : Nat → Value} (h : OwnB B w ao cap l) {B' : Nat} (hBB : B' ≤ B) (hB : B' ≤ w.heap.size) (hb : Below B' a w)
    (ha : Appended w w1 5 1 ao n cap ao' m cap' f) : Below B' a w1 := by
  have hg : w.grownBy w1 (rowOf ao cap) := by
    rcases ha.way with ⟨_, _, h, _⟩ | ⟨_, _, h, _⟩
    · exact h
    · exact ⟨h.os, h.tape, h.output, h.size, fun i hi _ => h.block i hi⟩
  exact hb.grown hg hB fun g hg => Nat.le_trans hBB (h.row g hg)
theorem ownB_keep {w w1 : World} {B : Nat} {ao ao' : Option Addr} {m n cap cap' : Nat} {l : List UInt8} {f : Nat → Value} (h : OwnB B w ao cap l)
    (ha : Appended w w1 5 1 ao n cap ao' m cap' f) {b : Nat} (hb : b < B) (hlt : b < w.heap.size) : w1.cell? ⟨b, 0, none⟩ = w.cell? ⟨b, 0, none⟩ := by
  have hh : w1.heap[b]? = w.heap[b]? := ha.grown.block b hlt fun e => absurd (h.row b e.symm) (by omega)
  unfold World.cell?
  simp only [hh]
theorem OwnB.alloc {w : World} {B : Nat} {ao : Option Addr} {cap : Nat} {l : List UInt8} (h : OwnB B w ao cap l) (o : Obj) : OwnB B (w.alloc o) ao cap l := ⟨h.sl.alloc o, h.row, h.some_⟩

theorem ownB_cells {w : World} {B : Nat} {g cap : Nat} {l : List UInt8} (h : OwnB B w (some ⟨g, 0, none⟩) cap l) :
    ∀ j (hj : j < l.length), w.cell? ((⟨g, 0, none⟩ : Addr).add j) = some (.int .u8 (l[j].toNat : Int)) := fun j hj => by
  have hadd : (⟨g, 0, none⟩ : Addr).add j = ⟨g, j, none⟩ := by unfold Addr.add; split <;> simp_all
  rw [hadd, h.sl.cell (i := j) (by omega)]
  unfold bytesF
  rw [List.getD_eq_getElem?_getD, List.getElem?_eq_getElem hj]
  rfl

theorem infoB : (Tryz.prog.info? 5).map (fun i => (i.zero, i.size, i.bytes)) = some (some (.int .u8 0), 1, 1) := by kernel_rfl

def Rfold (s : ByteArray) (w : World) (u4 u5 u6 : Value) (wr : World) : Prop :=
  ∃ (i fuel : Nat) (ao : Option Addr) (cap : Nat) (out : List UInt8) (apart : Bool), i ≤ s.size ∧ s.size - i ≤ fuel ∧ out.length ≤ 3 * i ∧ foldGo s.data.toList fuel i out apart = foldL s.data.toList ∧
    u4 = .slice ao out.length cap ∧ u5 = .bool apart ∧ u6 = .int .i64 i ∧ OwnB (w.heap.size + 1) wr ao cap out ∧ Below w.heap.size w wr ∧ wr.cell? ⟨w.heap.size, 0, none⟩ = some (.string s)

set_option maxRecDepth 1000000 in
set_option maxHeartbeats 1000000 in
theorem Fold_any (w : World) (s : ByteArray) (hs : s.size ≤ 1000000) :
    Calls Tryz.prog 10 #[.string s] w fun e w' => e = .returned (.string ⟨(foldL s.data.toList).toArray⟩) ∧ Below w.heap.size w w' := by
  have hsz : s.data.toList.length = s.size := by simp
  obtain ⟨i0, hi0, hz0, hz1, hz2⟩ := info_parts infoB
  have hmf : ∀ (fn : Fn) (first cap : Array Value) (w : World), (Instr.makeFunc fn first cap).run Tryz.prog w = .ok (.func fn first cap) w := fun _ _ _ _ => rfl
  have hmk : ∀ w : World, (Instr.makeSlice 81 (.int .i64 0) (.int .i64 s.size)).run Tryz.prog w = .ok (.slice (some ⟨w.heap.size, 0, none⟩) 0 s.size) (w.alloc (.cells (madeCells #[.int .u8 0] s.size) 5)) := fun w => by
    have hr := run_make (P := Tryz.prog) w 81 5 i0 (.int .u8 0) Tryz.underlying81 hi0 hz0 .i64 .i64 0 s.size (by omega) (by omega) (by rw [hz2]; omega) (by omega)
    rw [hz1] at hr
    simpa [Value.cells] using hr
  have hb0 : Below w.heap.size w ((w.alloc (.cells #[.string s] 9)).alloc (.cells (madeCells #[.int .u8 0] s.size) 5)) := ((Below.refl _ _).alloc (Nat.le_refl _) _).alloc (by simp) _
  have ho0 : OwnB (w.heap.size + 1) ((w.alloc (.cells #[.string s] 9)).alloc (.cells (madeCells #[.int .u8 0] s.size) 5)) (some ⟨w.heap.size + 1, 0, none⟩) s.size [] := by
    refine ⟨?_, ?_, ⟨_, rfl⟩⟩
    · have := Sl.made (w.alloc (.cells #[.string s] 9)) 5 (.int .u8 0) 0 s.size (by omega) (by unfold maxLen; omega)
      simp only [World.size_alloc] at this
      exact this.congr fun j hj => absurd hj (by simp)
    · intro g hg
      unfold rowOf at hg
      split at hg
      · cases hg
      · simp at hg; omega
  have hc0 : ((w.alloc (.cells #[.string s] 9)).alloc (.cells (madeCells #[.int .u8 0] s.size) 5)).cell? ⟨w.heap.size, 0, none⟩ = some (.string s) := by
    rw [World.cell?_alloc_past _ _ _ (by simp), World.cell?_alloc_at _ _ _ _ rfl]; rfl
  go_enter Tryz.func10, Tryz.ntmps10
  go_wp2_with fail
  go_loopw [4, 5, 6] (Rfold s w) (fun _ _ u6 _ => s.size - (intOf u6).toNat)
  case atStart => exact ⟨0, s.data.toList.length, _, s.size, [], false, by omega, by omega, by simp, rfl, rfl, rfl, rfl, ho0, hb0, hc0⟩
  case round =>
    clear hb0 ho0 hc0 hmk
    obtain ⟨i, fuel, ao, cap, out, apart, hi, hfuel, hout, hgo, rfl, rfl, rfl, hown, hb, hc⟩ := hrel
    have Hgo := Lib.hid hgo
    clear hgo
    have hB := hb.size
    have hltr : w.heap.size < wr.heap.size := World.block_lt_of_cell? _ _ hc
    by_cases hlt : i < s.size
    · obtain ⟨hb1, hb2, hb3⟩ := bec_len s.data.toList i (by omega)
      rw [hsz] at hb3
      have hbec := becomes_any wr w.heap.size s i hlt hs hc
      unfold BecEnd at hbec
      obtain ⟨fuel, rfl⟩ : ∃ f, fuel = f + 1 := ⟨fuel - 1, by omega⟩
      have hun : Hid (foldGo s.data.toList (fuel + 1) i out apart = if (bec s.data.toList i).1 = [] then foldGo s.data.toList fuel (i + (bec s.data.toList i).2) out true
          else foldGo s.data.toList fuel (i + (bec s.data.toList i).2) ((if apart = true ∧ 0 < out.length then out ++ [32] else out) ++ (bec s.data.toList i).1) false) := by
        show foldGo _ _ _ _ _ = _
        rw [foldGo, if_pos (by omega)]
      generalize hpp : bec s.data.toList i = pp at hbec hun hb1 hb2 hb3
      clear hpp
      obtain ⟨p, n⟩ := pp
      obtain ⟨pb, hpb⟩ : ∃ pb : ByteArray, pb = ⟨p.toArray⟩ := ⟨_, rfl⟩
      have hpl : pb.toList = p := by rw [hpb, ByteArray.toList_eq]
      have hps : pb.size = p.length := by rw [hpb]; rfl
      have hpc : Hid (byteCells pb = p.map fun b => Value.int .u8 b.toNat) := by rw [hpb]; rfl
      simp only at hbec hun hb1 hb2 hb3
      rw [← hpb] at hbec
      have Hbec := Lib.hid hbec
      clear hpb hbec
      by_cases h0 : p = []
      · have g0 : pb.toList = [] := by rw [hpl, h0]
        have g1 : pb.toList.isEmpty = true := by rw [g0]; rfl
        clear hpl hps
        have hnext : Hid (foldGo s.data.toList fuel (i + n) out true = foldL s.data.toList) := by
          have := Hgo.out
          rw [hun.out, if_pos h0] at this
          exact this
        clear hun Hgo
        go_wp2_with (go_at_call 29; refine Hbec.out.mono ?_; rintro e w' ⟨rfl, rfl⟩)
        go_roundw
        case rel => exact ⟨i + n, fuel, ao, cap, out, true, by omega, by omega, by omega, hnext.out, rfl, rfl, by go_num, hown, hb, hc⟩
        case measure => simp [intOf]; omega
      · have g0 : ¬ pb.toList = [] := by rw [hpl]; exact h0
        have g1 : pb.toList.isEmpty = false := by rw [List.isEmpty_eq_false_iff]; exact g0
        have Hps := Lib.hid hps
        clear hpl hps
        by_cases h3 : apart = true ∧ 0 < out.length
        · obtain ⟨rfl, h3⟩ := h3
          have d3 : decide ((0 : Int) < (out.length : Int)) = true := decide_eq_true (by omega)
          have hnext : Hid (foldGo s.data.toList fuel (i + n) ((out ++ [32]) ++ p) false = foldL s.data.toList) := by
            have := Hgo.out
            rw [hun.out, if_neg h0, if_pos ⟨rfl, h3⟩] at this
            exact this
          clear hun Hgo
          go_wp2_with (first
            | (go_at_call 29; refine Hbec.out.mono ?_; rintro e w' ⟨rfl, rfl⟩)
            | (at_builtin; refine wpList_append_sl _ rfl (.tmp 34) (.tmp 35) 81 rfl 5 i0 _ 1 1 Tryz.underlying81 hi0 hz0 hz1 hz2 rfl rfl (hown.sl.alloc _) ⟨_, 0, none⟩ 1 1 [.int .u8 32] rfl rfl (cell_one_at _ _ _ _ rfl) (by intro u hu; simp at hu; subst hu; rfl) (by unfold maxLen; omega) (by omega) ?_))
          intro ao1 cap1 w1 ha1
          have hown1 := ownB_app (hown.alloc _) (by simp; omega) (m := [32]) rfl rfl ha1
          have hbl1 := ownB_grown (hown.alloc _) (Nat.le_succ _) (by simp; omega) (hb.alloc hB _) ha1
          have hB1 := hbl1.size
          have hc1 : w1.cell? ⟨w.heap.size, 0, none⟩ = some (.string s) := (ownB_keep (hown.alloc _) ha1 (by omega) (by simp; omega)).trans ((World.cell?_alloc_lt _ _ _ (World.block_lt_of_cell? _ _ hc)).trans hc)
          have hlt1 : w.heap.size < w1.heap.size := World.block_lt_of_cell? _ _ hc1
          clear ha1 hown hb
          obtain ⟨out', hout'⟩ : ∃ o : List UInt8, o = out ++ [32] := ⟨_, rfl⟩
          have hl' : out.length + 1 = out'.length := by rw [hout']; simp
          rw [← hout'] at hown1
          have Hout' := Lib.hid hout'
          clear hout'
          have Hl' := Lib.hid hl'
          rw [hl']
          clear hl' hc
          go_wp2_with (at_builtin; go_loud (refine wpList_append_of _ rfl (.tmp 37) (.tmp 38) 81 9 rfl 5 i0 _ 1 1 Tryz.underlying81 hi0 hz0 hz1 hz2 rfl rfl hown1.sl (.string pb) rfl pb.size (byteCells pb) (Src.ofString _ Tryz.underlying9 pb) (by have := Hps.out; have := Hl'.out; unfold maxLen; omega) (by have := Hps.out; have := Hl'.out; omega) ?_))
          intro ao2 cap2 w2 ha2
          have hown2 := ownB_app hown1 (by omega) (m := p) (by rw [Hps.out]) hpc.out ha2
          have hbl2 := ownB_grown hown1 (Nat.le_succ _) (by omega) hbl1 ha2
          have hc2 := (ownB_keep hown1 ha2 (Nat.lt_succ_self _) (by omega)).trans hc1
          have hl2 : Hid (out'.length + pb.size = (out' ++ p).length) := by rw [Hid, List.length_append, Hps.out]
          clear ha2 hown1 hbl1 hc1
          go_wp2_with fail
          go_roundw
          case rel => exact ⟨i + n, fuel, ao2, cap2, out' ++ p, false, by omega, by omega, by have := Hl'.out; simp; omega, by rw [Hout'.out]; exact hnext.out, by rw [hl2.out], rfl, by go_num, hown2, hbl2, hc2⟩
          case measure => simp [intOf]; omega
        · have hnext : Hid (foldGo s.data.toList fuel (i + n) (out ++ p) false = foldL s.data.toList) := by
            have := Hgo.out
            rw [hun.out, if_neg h0, if_neg h3] at this
            exact this
          clear hun Hgo
          have h4 : (apart = false ∧ True) ∨ (apart = true ∧ ¬ 0 < out.length) := by
            cases apart
            · exact .inl ⟨rfl, trivial⟩
            · exact .inr ⟨rfl, by simp at h3; simp [h3]⟩
          clear h3
          rcases h4 with ⟨rfl, _⟩ | ⟨rfl, d3⟩
          all_goals
            go_wp2_with (first
              | (go_at_call 29; refine Hbec.out.mono ?_; rintro e w' ⟨rfl, rfl⟩)
              | (at_builtin; refine wpList_append_of _ rfl (.tmp 37) (.tmp 38) 81 9 rfl 5 i0 _ 1 1 Tryz.underlying81 hi0 hz0 hz1 hz2 rfl rfl hown.sl (.string pb) rfl pb.size (byteCells pb) (Src.ofString _ Tryz.underlying9 pb) (by have := Hps.out; unfold maxLen; omega) (by have := Hps.out; omega) ?_))
            intro ao2 cap2 w2 ha2
            have hown2 := ownB_app hown (by omega) (m := p) (by rw [Hps.out]) hpc.out ha2
            have hbl2 := ownB_grown hown (Nat.le_succ _) (by omega) hb ha2
            have hc2 := (ownB_keep hown ha2 (Nat.lt_succ_self _) (by omega)).trans hc
            have hl2 : Hid (out.length + pb.size = (out ++ p).length) := by rw [Hid, List.length_append, Hps.out]
            clear ha2 hown hb hc
            go_wp2_with fail
            go_roundw
            case rel => exact ⟨i + n, fuel, ao2, cap2, out ++ p, false, by omega, by omega, by simp; omega, hnext.out, by rw [hl2.out], rfl, by go_num, hown2, hbl2, hc2⟩
            case measure => simp [intOf]; omega
    · obtain rfl : i = s.size := by omega
      have hfin : Hid (out = foldL s.data.toList) := by
        have := Hgo.out
        cases fuel with
        | zero => exact this
        | succ fuel => rw [foldGo, if_neg (by omega)] at this; exact this
      clear Hgo
      obtain ⟨g, rfl⟩ := hown.some_
      have hcv := run_convert_bytes_back (P := Tryz.prog) wr 81 9 5 ⟨g, 0, none⟩ cap out Tryz.underlying81 Tryz.underlying5 Tryz.underlying9 (ownB_cells hown)
      go_wp2_with fail
      go_ret
      rw [hfin.out]
      exact ⟨rfl, hb⟩
end Go.Proofs.YthpjkfcaabhdhaaGreat
