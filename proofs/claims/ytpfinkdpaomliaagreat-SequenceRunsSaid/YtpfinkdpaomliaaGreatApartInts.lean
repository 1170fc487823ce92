/-
  ApartInts returns true of slices that lie in blocks of their own, or have no room. Printed by wip/gen_bag.py.
-/
import Derived.Test.YtpfinkdpaomliaaGreatProg
import Derived.Test.YtpfinkdpaomliaaGreatBagInts
import Derived.Lib.Hide
namespace Go.Proofs.YtpfinkdpaomliaaGreat
open Go.RowKit

theorem nils33Ints (i : Nat) (hi : i < 33) : (#[Value.slice none 0 0, Value.slice none 0 0, Value.slice none 0 0, Value.slice none 0 0, Value.slice none 0 0, Value.slice none 0 0, Value.slice none 0 0, Value.slice none 0 0, Value.slice none 0 0, Value.slice none 0 0, Value.slice none 0 0, Value.slice none 0 0, Value.slice none 0 0, Value.slice none 0 0, Value.slice none 0 0, Value.slice none 0 0, Value.slice none 0 0, Value.slice none 0 0, Value.slice none 0 0, Value.slice none 0 0, Value.slice none 0 0, Value.slice none 0 0, Value.slice none 0 0, Value.slice none 0 0, Value.slice none 0 0, Value.slice none 0 0, Value.slice none 0 0, Value.slice none 0 0, Value.slice none 0 0, Value.slice none 0 0, Value.slice none 0 0, Value.slice none 0 0, Value.slice none 0 0] : Array Value)[i]? = some (if i = 1 then .slice none 0 0 else .slice none 0 0) := by
  rw [Array.getElem?_eq_getElem (by simpa using hi)]
  have h : (#[Value.slice none 0 0, Value.slice none 0 0, Value.slice none 0 0, Value.slice none 0 0, Value.slice none 0 0, Value.slice none 0 0, Value.slice none 0 0, Value.slice none 0 0, Value.slice none 0 0, Value.slice none 0 0, Value.slice none 0 0, Value.slice none 0 0, Value.slice none 0 0, Value.slice none 0 0, Value.slice none 0 0, Value.slice none 0 0, Value.slice none 0 0, Value.slice none 0 0, Value.slice none 0 0, Value.slice none 0 0, Value.slice none 0 0, Value.slice none 0 0, Value.slice none 0 0, Value.slice none 0 0, Value.slice none 0 0, Value.slice none 0 0, Value.slice none 0 0, Value.slice none 0 0, Value.slice none 0 0, Value.slice none 0 0, Value.slice none 0 0, Value.slice none 0 0, Value.slice none 0 0] : Array Value) = Array.replicate 33 (.slice none 0 0) := rfl
  simp only [h, Array.getElem_replicate, ite_self]

theorem infoRowInts : (Tryz.prog.info? 23).map (fun i => (i.zero, i.size, i.bytes)) = some (some (.slice none 0 0), 1, 24) := by kernel_rfl

theorem slice_oneInts (x : Option Addr) (l c : Nat) : ∀ u ∈ [Value.slice x l c], u.oneCell' = true := by
  intro u hu
  simp at hu
  subst hu
  rfl

/-- The bag lies in block b; its Ints are the first k of the slices. -/
structure FilledInts (w0 w : World) (b k : Nat) (f : Nat → Value) (ab : Option Addr) (cb : Nat) : Prop where
  bag : BagInts w b (.slice ab k cb)
  sl : Sl w 23 1 ab k cb f
  row : ∀ g, rowOf ab cb = some g → b < g
  below : Below b w0 w

theorem BagInts.far {w w' : World} {b : Nat} {v : Value} {row : Option Nat} (h : BagInts w b v) (hg : w.grownBy w' row) (hr : row ≠ some b) : BagInts w' b v := by
  obtain ⟨cur, h1, h2⟩ := h
  exact ⟨cur, (hg.block b (Array.getElem?_eq_some_iff.1 h1).1 (fun x => hr x.symm)).trans h1, h2⟩
theorem BagInts.lt {w : World} {b : Nat} {v : Value} (h : BagInts w b v) : b < w.heap.size := by
  obtain ⟨cur, h1, _⟩ := h
  exact (Array.getElem?_eq_some_iff.1 h1).1
theorem BagInts.at_ {w : World} {b : Nat} {v : Value} (h : BagInts w b v) : w.cell? ⟨b, 1, none⟩ = some v := by
  obtain ⟨cur, h1, h2⟩ := h
  simp [World.cell?, h1, h2 1 (by omega)]
theorem BagInts.fr {w : World} {b : Nat} {v : Value} (h : BagInts w b v) (i : Nat) : w.frozen? ⟨b, i, none⟩ = false := by
  obtain ⟨cur, h1, h2⟩ := h
  simp [World.frozen?, h1]
theorem BagInts.put {w : World} {b : Nat} {v : Value} (h : BagInts w b v) (u : Value) : BagInts (w.setCell ⟨b, 1, none⟩ u) b u := by
  obtain ⟨cur, h1, h2⟩ := h
  refine ⟨cur.setIfInBounds 1 u, by simp [World.setCell, Array.getElem?_modify, h1], fun i hi => ?_⟩
  have hs : i < cur.size := (Array.getElem?_eq_some_iff.1 (h2 i hi)).1
  rw [Array.getElem?_setIfInBounds]
  by_cases e : 1 = i
  · subst e; simp [hs]
  · have e' : ¬ i = 1 := fun h => e h.symm
    have := h2 i hi
    rw [if_neg e'] at this ⊢
    rw [if_neg e]
    exact this

theorem filledInts_next {w0 w w1 : World} {b k : Nat} {f : Nat → Value} {ab ab' : Option Addr} {cb cb' : Nat} (h : FilledInts w0 w b k f ab cb) (v : Value) (hv : f k = v) (o : Obj)
    (ha : Appended (w.alloc o) w1 23 1 ab k cb ab' (k + 1) cb' (fun j => if j < k then f j else [v][j - k]?.getD undef)) (n' : Nat) (hn : n' = k + 1) :
    FilledInts w0 (w1.setCell ⟨b, 1, none⟩ (.slice ab' n' cb')) b (k + 1) f ab' cb' := by
  subst hn
  subst hv
  have hg := ha.grown
  have hne : rowOf ab cb ≠ some b := fun x => by have := h.row b x; omega
  have hb1 : BagInts w1 b (.slice ab k cb) := (h.bag.far (World.grownBy_alloc w o none) (by simp)).far hg hne
  have hrow : ∀ g, rowOf ab' cb' = some g → b < g := by
    intro g hg'
    rcases ha.way with ⟨rfl, rfl, _, _⟩ | ⟨_, rfl, _, _⟩
    · exact h.row g hg'
    · unfold rowOf at hg'
      split at hg'
      · cases hg'
      · simp at hg'
        have := h.bag.lt
        omega
  refine ⟨hb1.put _, ?_, hrow, ?_⟩
  · refine (ha.sl.congr fun j hj => ?_).far (fun g hg' hx => ?_) _
    · by_cases hjk : j < k
      · simp [hjk]
      · have : j = k := by omega
        subst this
        simp
    · have := hrow g hg'
      simp only [] at hx
      omega
  · have hlt := h.bag.lt
    exact (((h.below.alloc (by omega) o).grown hg (by simp; omega) (fun g hg' => by have := h.row g hg'; omega))).setCell (by simp) _

set_option maxRecDepth 100000 in
theorem putInts_any (w0 w : World) (b k : Nat) (f : Nat → Value) (ab : Option Addr) (cb : Nat) (x : Option Addr) (l c : Nat) (hk : k ≤ 1048576) (h : FilledInts w0 w b k f ab cb) (hv : f k = .slice x l c) :
    Calls Tryz.prog 53 #[.pointer (some ⟨b, 0, none⟩), .slice x l c] w fun e w' => e = .returned (.tuple #[]) ∧ ∃ ab' cb', FilledInts w0 w' b (k + 1) f ab' cb' := by
  obtain ⟨i0, hi0, hz0, hz1, hz2⟩ := info_parts infoRowInts
  have hc := h.bag.at_
  have hlt := h.bag.lt
  have Hv := Lib.hid hv
  clear hv
  go_enter Tryz.func53, Tryz.ntmps53
  go_wp2_with (at_builtin; refine wpList_append_sl _ rfl (.tmp 8) (.tmp 10) 47 rfl 23 i0 (.slice none 0 0) 1 24 Tryz.underlying47 hi0 hz0 hz1 hz2 rfl rfl (h.sl.alloc _) ⟨_, 0, none⟩ 1 1 [.slice x l c] rfl rfl (cell_one_at _ _ _ _ (by simp)) (slice_oneInts _ _ _) (by unfold maxLen; omega) (by omega) ?_)
  intro ab' cb' w1 hap
  have hap' : Appended (w.alloc (.cells #[.slice x l c] 23)) w1 23 1 ab k cb ab' (k + 1) cb' (fun j => if j < k then f j else [Value.slice x l c][j - k]?.getD undef) := by simpa using hap
  have hnext := filledInts_next h _ Hv.out _ hap' (k + 1) rfl
  have hne : rowOf ab cb ≠ some b := fun x => by have := h.row b x; omega
  have hb1 : BagInts w1 b (.slice ab k cb) := (h.bag.far (World.grownBy_alloc w _ none) (by simp)).far hap'.grown hne
  have hc1 := hb1.at_
  have hf1 := hb1.fr 1
  clear hap hap' hb1 hc h
  go_wp2_with fail
  go_end0
  exact ⟨rfl, ab', cb', hnext⟩

def RaInts (n : Nat) (A : Nat → Option Addr) (L C : Nat → Nat) (w0 : World) (u4 : Value) (wr : World) : Prop :=
  ∃ k : Nat, k ≤ n ∧ u4 = .int .i64 k ∧ ∃ ab cb, FilledInts w0 wr w0.heap.size k (fun j => .slice (A j) (L j) (C j)) ab cb

/-- The blocks that may change: the slices' own, and new ones. -/
def RowsInts_ (n : Nat) (A : Nat → Option Addr) (C : Nat → Nat) (w : World) (g : Nat) : Prop := (∃ k, k < n ∧ rowOf (A k) (C k) = some g) ∨ w.heap.size ≤ g

set_option maxRecDepth 100000 in
set_option maxHeartbeats 1000000 in
theorem ApartInts_any (n cap : Nat) (ao : Option Addr) (A : Nat → Option Addr) (L C : Nat → Nat) (F : Nat → Nat → Value) (w : World) (hn : n ≤ 1048576) (hL : ∀ k, k < n → L k ≤ 1048576)
    (hls : Sl w 23 1 ao n cap (fun k => .slice (A k) (L k) (C k))) (hfam : ∀ k, k < n → Sl w 3 1 (A k) (L k) (C k) (F k)) (hd : Dist n A C) :
    Calls Tryz.prog 23 #[.slice ao n cap] w fun e w' => e = .returned (.bool true) ∧ Only (RowsInts_ n A C w) w w' := by
  have h0 : FilledInts w (w.alloc (.cells #[.slice none 0 0, .slice none 0 0, .slice none 0 0, .slice none 0 0, .slice none 0 0, .slice none 0 0, .slice none 0 0, .slice none 0 0, .slice none 0 0, .slice none 0 0, .slice none 0 0, .slice none 0 0, .slice none 0 0, .slice none 0 0, .slice none 0 0, .slice none 0 0, .slice none 0 0, .slice none 0 0, .slice none 0 0, .slice none 0 0, .slice none 0 0, .slice none 0 0, .slice none 0 0, .slice none 0 0, .slice none 0 0, .slice none 0 0, .slice none 0 0, .slice none 0 0, .slice none 0 0, .slice none 0 0, .slice none 0 0, .slice none 0 0, .slice none 0 0] 147)) w.heap.size 0 (fun j => .slice (A j) (L j) (C j)) none 0 :=
    ⟨⟨_, heap_alloc_new w _, fun i hi => nils33Ints i hi⟩, Sl.nil _ _ _ _ _, fun g hg => by simp [rowOf] at hg, (Below.refl _ _).alloc (Nat.le_refl _) _⟩
  go_enter Tryz.func23, Tryz.ntmps23
  go_wp2_with fail
  generalize w.alloc (.cells #[.slice none 0 0, .slice none 0 0, .slice none 0 0, .slice none 0 0, .slice none 0 0, .slice none 0 0, .slice none 0 0, .slice none 0 0, .slice none 0 0, .slice none 0 0, .slice none 0 0, .slice none 0 0, .slice none 0 0, .slice none 0 0, .slice none 0 0, .slice none 0 0, .slice none 0 0, .slice none 0 0, .slice none 0 0, .slice none 0 0, .slice none 0 0, .slice none 0 0, .slice none 0 0, .slice none 0 0, .slice none 0 0, .slice none 0 0, .slice none 0 0, .slice none 0 0, .slice none 0 0, .slice none 0 0, .slice none 0 0, .slice none 0 0, .slice none 0 0] 147) = w0 at *
  go_loopw [4] (RaInts n A L C w) (fun u4 _ => n - (intOf u4).toNat)
  case atStart => exact ⟨0, Nat.zero_le _, rfl, none, 0, h0⟩
  case round =>
    clear h0
    obtain ⟨k, hk, rfl, ab, cb, hf⟩ := hrel
    by_cases hlt : k < n
    · have hcap : 0 < cap := by have := hls.le; omega
      obtain ⟨g0, rfl, _, hg0⟩ := hls.some_ hcap
      have hcell : wr.cell? ⟨g0, k, none⟩ = some (.slice (A k) (L k) (C k)) := (hf.below.cell (p := ⟨g0, k, none⟩) hg0).trans (hls.cell (i := k) (by omega))
      go_wp2_with (go_at_call 53; refine (putInts_any w _ w.heap.size k _ ab cb _ _ _ (by omega) hf rfl).mono ?_; rintro e w' ⟨rfl, ab', cb', hf'⟩)
      go_roundw
      case rel => exact ⟨k + 1, hlt, by go_num, ab', cb', hf'⟩
      case measure => simp [intOf]; omega
    · obtain rfl : n = k := by omega
      have hst : St 3 23 F (RowsInts_ n A C wr) n ab cb A L C wr wr :=
        { below := Only.refl _ _
          ls := hf.sl
          fam := fun k hk => (hfam k hk).below' hf.below
          dist := hd
          own := fun k hk g hg => .inl ⟨k, hk, hg⟩
          size := fun g hg => .inr hg
          ne := by decide }
      have hlt := hf.bag.lt
      have hnb : ¬ RowsInts_ n A C wr w.heap.size := by
        rintro (⟨k, hk, hg⟩ | h)
        · have := (hfam k hk).row_lt _ hg
          omega
        · omega
      have hbelow := hf.below
      go_wp2_with (go_at_call 54; refine (apartInts _ n cb ab A L C F _ w.heap.size hn hL hst hf.bag hnb).mono ?_; rintro e w' ⟨rfl, ho⟩)
      go_ret
      refine ⟨rfl, ho.os.trans hbelow.os, ho.tape.trans hbelow.tape, ho.output.trans hbelow.output, Nat.le_trans hbelow.size ho.size, fun g hg hn' => (ho.block g (Nat.lt_of_lt_of_le hg hbelow.size) ?_).trans (hbelow.block g hg)⟩
      rintro (h | h)
      · exact hn' (.inl h)
      · have := hbelow.size
        omega

end Go.Proofs.YtpfinkdpaomliaaGreat
