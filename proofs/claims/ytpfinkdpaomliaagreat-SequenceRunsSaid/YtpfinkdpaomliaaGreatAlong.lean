/-
  'along' of the package: an iterator over the seats of the rule for a limit.
-/
import Derived.RangeFuncNested
import Derived.RangeFuncBound
import Derived.RangeFuncCalls
import Derived.RangeFuncLeaves
import Derived.Shelf.Abstract
import Derived.Shelf.RegionOpen
import Derived.WalkKit
import Derived.OwnWalkIn
import Derived.TacticsInMore
import Derived.LoopNIn
import Derived.LoopIn
import Derived.Sort.QuietIn
import Derived.Test.YtpfinkdpaomliaaGreatMakeLaw
namespace Go.Proofs.YtpfinkdpaomliaaGreat
open Go.RowKit Go.Shelf
attribute [local go_sem] Oper.semAt_some

/-- What a round that goes on keeps: what lay below n₀, the iterator's own three blocks, and whatever is a stop. -/
structure Kp3 (n₀ b1 b2 b3 : Nat) (W W' : World) : Prop where
  below : Below n₀ W W'
  k1 : W'.heap[b1]? = W.heap[b1]?
  k2 : W'.heap[b2]? = W.heap[b2]?
  k3 : W'.heap[b3]? = W.heap[b3]?
  k4 : ∀ (b : Nat) (cur : Array Value) (fr : Nat × Nat), W.heap[b]? = some (Obj.cells cur 43 fr) → W'.heap[b]? = some (Obj.cells cur 43 fr)
theorem Kp3.trans {n₀ b1 b2 b3 : Nat} {A B C : World} (h : Kp3 n₀ b1 b2 b3 A B) (k : Kp3 n₀ b1 b2 b3 B C) : Kp3 n₀ b1 b2 b3 A C :=
  ⟨h.below.trans k.below, k.k1.trans h.k1, k.k2.trans h.k2, k.k3.trans h.k3, fun b cur fr hb => k.k4 b cur fr (h.k4 b cur fr hb)⟩
theorem Kp3.refl (n₀ b1 b2 b3 : Nat) (W : World) : Kp3 n₀ b1 b2 b3 W W := ⟨Below.refl _ _, rfl, rfl, rfl, fun _ _ _ h => h⟩
theorem kp3_b {n₀ b1 b2 b3 : Nat} {w : World} (hn : n₀ ≤ w.heap.size) (h1 : b1 < w.heap.size) (h2 : b2 < w.heap.size) (h3 : b3 < w.heap.size) (W : World) (l : Nat) (o o' : Obj) (hl : w.heap.size ≤ l) (h : W.heap[l]? = some o) (ho : o.isCells = false) (hw : o.isWalk = false) :
    Kp3 n₀ b1 b2 b3 W (W.putObj l o') :=
  ⟨belowK_b hn W l o o' hl h ho hw, World.putObj_heap_other (by omega), World.putObj_heap_other (by omega), World.putObj_heap_other (by omega), fun b cur fr hb => by
    have hne : b ≠ l := fun e => by subst e; rw [h] at hb; cases hb; cases ho
    rw [World.putObj_heap_other hne]; exact hb⟩
theorem Kp3.lt1 {n₀ b1 b2 b3 : Nat} {W W' : World} (h : Kp3 n₀ b1 b2 b3 W W') {o : Obj} (ho : W.heap[b1]? = some o) : b1 < W'.heap.size := (Array.getElem?_eq_some_iff.1 (h.k1.trans ho)).1
theorem Kp3.lt2 {n₀ b1 b2 b3 : Nat} {W W' : World} (h : Kp3 n₀ b1 b2 b3 W W') {o : Obj} (ho : W.heap[b2]? = some o) : b2 < W'.heap.size := (Array.getElem?_eq_some_iff.1 (h.k2.trans ho)).1
theorem Kp3.lt3 {n₀ b1 b2 b3 : Nat} {W W' : World} (h : Kp3 n₀ b1 b2 b3 W W') {o : Obj} (ho : W.heap[b3]? = some o) : b3 < W'.heap.size := (Array.getElem?_eq_some_iff.1 (h.k3.trans ho)).1
theorem kp3_alloc {n₀ b1 b2 b3 : Nat} {w : World} (hn : n₀ ≤ w.heap.size) (h1 : b1 < w.heap.size) (h2 : b2 < w.heap.size) (h3 : b3 < w.heap.size) (o : Obj) : Kp3 n₀ b1 b2 b3 w (w.alloc o) :=
  ⟨(Below.refl _ _).alloc hn _, Below.heap_alloc w o b1 h1, Below.heap_alloc w o b2 h2, Below.heap_alloc w o b3 h3, fun b cur fr hb => (Below.heap_alloc w o b (Array.getElem?_eq_some_iff.1 hb).1).trans hb⟩
theorem kp3_grown {n₀ b1 b2 b3 : Nat} {A B : World} {row : Option Nat} (hg : A.grownBy B row) (hs : n₀ ≤ A.heap.size) (h1 : b1 < A.heap.size) (h2 : b2 < A.heap.size) (h3 : b3 < A.heap.size)
    (hrow : ∀ g, row = some g → n₀ ≤ g ∧ g ≠ b1 ∧ g ≠ b2 ∧ g ≠ b3 ∧ ∃ cur t fr, A.heap[g]? = some (Obj.cells cur t fr) ∧ t ≠ 43) : Kp3 n₀ b1 b2 b3 A B :=
  ⟨(Below.refl n₀ A).grown hg hs (fun g e => (hrow g e).1), hg.block _ h1 (fun e => (hrow _ e.symm).2.1 rfl), hg.block _ h2 (fun e => (hrow _ e.symm).2.2.1 rfl), hg.block _ h3 (fun e => (hrow _ e.symm).2.2.2.1 rfl), fun b cur fr hb => by
    refine (hg.block b (Array.getElem?_eq_some_iff.1 hb).1 fun e => ?_).trans hb
    obtain ⟨_, _, _, _, cur', t, fr', hc, ht⟩ := hrow b e.symm
    rw [hb] at hc
    cases hc
    exact ht rfl⟩
theorem Kp3.drewN {n₀ b1 b2 b3 : Nat} {w w' : World} (h : Kp3 n₀ b1 b2 b3 w w') (k : Nat) : Kp3 n₀ b1 b2 b3 w (w'.drewN k) := ⟨below_drewN h.below k, h.k1, h.k2, h.k3, h.k4⟩
theorem five_blocks (w : World) (o1 o2 o3 o4 o5 : Obj) : ∀ W, ((((w.alloc o1).alloc o2).alloc o3).alloc o4).alloc o5 = W →
    W.heap[w.heap.size]? = some o1 ∧ W.heap[w.heap.size + 1]? = some o2 ∧ W.heap[w.heap.size + 1 + 1]? = some o3 ∧ W.heap[w.heap.size + 1 + 1 + 1]? = some o4 ∧ W.heap[w.heap.size + 1 + 1 + 1 + 1]? = some o5 ∧
      Below w.heap.size w W ∧ W.heap.size = w.heap.size + 5 := by
  rintro W rfl
  have s1 : (w.alloc o1).heap.size = w.heap.size + 1 := by simp
  have s2 : ((w.alloc o1).alloc o2).heap.size = w.heap.size + 1 + 1 := by simp
  have s3 : (((w.alloc o1).alloc o2).alloc o3).heap.size = w.heap.size + 1 + 1 + 1 := by simp
  have s4 : ((((w.alloc o1).alloc o2).alloc o3).alloc o4).heap.size = w.heap.size + 1 + 1 + 1 + 1 := by simp
  have e1 := World.alloc_heap_new w o1
  have e2 := World.alloc_heap_new (w.alloc o1) o2
  have e3 := World.alloc_heap_new ((w.alloc o1).alloc o2) o3
  have e4 := World.alloc_heap_new (((w.alloc o1).alloc o2).alloc o3) o4
  have e5 := World.alloc_heap_new ((((w.alloc o1).alloc o2).alloc o3).alloc o4) o5
  rw [s1] at e2
  rw [s2] at e3
  rw [s3] at e4
  rw [s4] at e5
  refine ⟨?_, ?_, ?_, ?_, e5, ?_, by simp⟩
  · exact (Below.heap_alloc _ _ _ (by omega)).trans ((Below.heap_alloc _ _ _ (by omega)).trans ((Below.heap_alloc _ _ _ (by omega)).trans ((Below.heap_alloc _ _ _ (by omega)).trans e1)))
  · exact (Below.heap_alloc _ _ _ (by omega)).trans ((Below.heap_alloc _ _ _ (by omega)).trans ((Below.heap_alloc _ _ _ (by omega)).trans e2))
  · exact (Below.heap_alloc _ _ _ (by omega)).trans ((Below.heap_alloc _ _ _ (by omega)).trans e3)
  · exact (Below.heap_alloc _ _ _ (by omega)).trans e4
  · exact (((((Below.refl _ w).alloc (Nat.le_refl _) _).alloc (by omega) _).alloc (by omega) _).alloc (by omega) _).alloc (by omega) _
def seatV (x : Seat) : Value := .agg #[.int .i64 (Seat.stop x), .int .i64 (Seat.vol x), .int .i64 (Seat.first x), .int .i64 (Seat.second x)]
/-- Where the iterator stands at a stop. -/
def R67 (ls : List Stop) (caps : List Int) (lim m n₀ b1 b2 b3 : Nat) (J : List Seat → World → Prop) (W : World) (u5 u6 u7 u12 : Value) (wr : World) : Prop :=
  ∃ (i at_ held : Nat) (load : Int) (out : List Seat), i ≤ m ∧ at_ < caps.length ∧ u12 = .int .i64 i ∧ u5 = .int .i64 at_ ∧ u6 = .int .i64 held ∧ u7 = .int .i64 load ∧ Reach ls caps lim ⟨i, at_, held, load, out⟩ ∧ out.length = i ∧ J out wr ∧ Kp3 n₀ b1 b2 b3 W wr
def R67i (ls : List Stop) (caps : List Int) (lim i n₀ b1 b2 b3 : Nat) (J : List Seat → World → Prop) (out : List Seat) (bx : Nat) (s : Stop) (W : World) (u5 u6 u7 : Value) (wr : World) : Prop :=
  ∃ (at_ held : Nat) (load : Int), at_ < caps.length ∧ u5 = .int .i64 at_ ∧ u6 = .int .i64 held ∧ u7 = .int .i64 load ∧ Reach ls caps lim ⟨i, at_, held, load, out⟩ ∧ J out wr ∧ Kp3 n₀ b1 b2 b3 W wr ∧ wr.heap[bx]? = some (.cells #[.int .i64 s.1, .int .i64 s.2] 43 (0, 0))

set_option maxRecDepth 1000000 in
set_option maxHeartbeats 4000000 in
theorem along1_in (n : Nat) (hn : 1 ≤ n) (l b1 b2 b3 : Nat) (ao bo : Option Addr) (m c nn c1 lim : Nat) (ls : List Stop) (caps : List Int) (w0 : World)
    (hst : Stops w0 ao m ls) (hca : Ints w0 bo nn caps) (hv : goodVols ls) (hm : m ≤ 1000) (hnn : 1 ≤ nn) (hnn2 : nn ≤ 64) (hlim : lim ≤ 64) (hcap : ∀ i, i < nn → 1 ≤ capAt caps i ∧ capAt caps i ≤ 100000)
    (J Jx : List Seat → World → Prop)
    (hY : ∀ pre x W, J pre W → pre.length < m → YieldAt Fence.wide (n - 1) Tryz.prog l #[seatV x] W fun e W' =>
      (e = .returned (.bool true) ∧ J (pre ++ [x]) W' ∧ Kp3 w0.heap.size b1 b2 b3 W W') ∨ (e = .returned (.bool false) ∧ Jx (pre ++ [x]) W'))
    (W : World) (hJ : AbidesFrom W.heap.size J) (hW : Below w0.heap.size w0 W) (hb1 : W.heap[b1]? = some (.cells #[.slice ao m c] 22 (0, 0))) (hb2 : W.heap[b2]? = some (.cells #[.int .i64 lim] 3 (0, 0))) (hb3 : W.heap[b3]? = some (.cells #[.slice bo nn c1] 23 (0, 0)))
    (h0 : J [] W) :
    CallsIn Fence.wide n Tryz.prog 67 #[.func (.yield l) #[] #[], .pointer (some ⟨b1, 0, none⟩), .pointer (some ⟨b2, 0, none⟩), .pointer (some ⟨b3, 0, none⟩)] W fun e W' => (∃ v, e = .returned v) ∧
      ((∃ ys, ys = (finalSq ls caps lim).out ∧ J ys W') ∨ (∃ pre, pre.length ≤ m ∧ Jx pre W')) := by
  have Hl := Lib.hid hst.len
  have Hcl := Lib.hid hca.len
  have Hb1 := Lib.hid hb1
  have Hb2 := Lib.hid hb2
  have Hb3 := Lib.hid hb3
  have z1 : W.cell? ⟨b1, 0, none⟩ = some (.slice ao m c) := by simp [World.cell?, hb1]
  clear hb1 hb2 hb3
  refine callsIn_of_wp Tryz.func67 rfl trivial ?_ rfl
  simp only [Tryz.ntmps67, List.size_toArray, List.length_cons, List.length_nil, Nat.reduceAdd, Nat.reduceSub, Array.replicate_succ, Array.replicate_zero, List.push_toArray, List.append_toArray, List.nil_append, List.cons_append]
  gi_wp2
  gi_loopw [5, 6, 7, 12] (R67 ls caps lim m w0.heap.size b1 b2 b3 J W) (fun _ _ _ u12 _ => m - (intOf u12).toNat)
  case atStart => exact ⟨0, 0, 0, 0, [], Nat.zero_le _, by rw [Hcl.out]; exact hnn, rfl, rfl, rfl, rfl, Reach.start, rfl, h0, Kp3.refl _ _ _ _ _⟩
  case round =>
    obtain ⟨i, at_, held, load, out, hi, hat, rfl, rfl, rfl, rfl, hre, ho, hJs, hk⟩ := hrel
    have Ho := Lib.hid ho
    clear ho
    by_cases hlt : i < m
    · obtain ⟨g, off, rfl, hg, hc0, hc1⟩ := Stops.at hst hlt
      have e0 : wr.cell? ⟨g, off + i * 2, none⟩ = some (.int .i64 (ls.getD i stopD).1) := ((hW.trans hk.below).cell (p := ⟨g, off + i * 2, none⟩) hg).trans hc0
      have e1 : wr.cell? ⟨g, off + i * 2 + 1, none⟩ = some (.int .i64 (volAt ls i)) := ((hW.trans hk.below).cell (p := ⟨g, off + i * 2 + 1, none⟩) hg).trans hc1
      clear hc0 hc1 z1
      have hsz : w0.heap.size ≤ wr.heap.size := (hW.trans hk.below).size
      have hJ1 : J out (wr.alloc (.cells #[.int .i64 (ls.getD i stopD).1, .int .i64 (volAt ls i)] 43)) := hJ out wr _ none hJs (World.grownBy_alloc wr _ none) (fun r e => by cases e)
      have hk1 : Kp3 w0.heap.size b1 b2 b3 W (wr.alloc (.cells #[.int .i64 (ls.getD i stopD).1, .int .i64 (volAt ls i)] 43)) := hk.trans (kp3_alloc hsz (hk.lt1 Hb1.out) (hk.lt2 Hb2.out) (hk.lt3 Hb3.out) _)
      have hbx := heap_alloc_new wr (.cells #[.int .i64 (ls.getD i stopD).1, .int .i64 (volAt ls i)] 43)
      have Hbx := Lib.hid hbx
      clear hbx
      have hvi := hv i (by rw [Hl.out]; exact hlt)
      have Hre := Lib.hid hre
      clear hre
      have Hseat : Hid (∀ (h a : Nat), seatV (seatOf (ls.getD i stopD) h a) = .agg #[.int .i64 (ls.getD i stopD).1, .int .i64 (volAt ls i), .int .i64 (h : Int), .int .i64 (a : Int)]) := fun h a => rfl
      have Hso : Hid (∀ (h a : Nat), seatOf (ls.getD i stopD) h a = ((ls.getD i stopD).1, volAt ls i, (h : Int), (a : Int))) := fun h a => rfl
      have hlt' : i < ls.length := by rw [Hl.out]; exact hlt
      have Hplace : Hid (∀ (a h : Nat) (ld : Int), Reach ls caps lim ⟨i, a, h, ld, out⟩ → a < caps.length → h < lim → ld + volAt ls i ≤ capAt caps a → Reach ls caps lim ⟨i + 1, a, h + 1, ld + volAt ls i, out ++ [seatOf (ls.getD i stopD) h a]⟩) :=
        fun a h ld hr h1 h2 h3 => Reach.place hr hlt' h1 h2 h3
      have Hadv : Hid (∀ (a h : Nat) (ld : Int), Reach ls caps lim ⟨i, a, h, ld, out⟩ → a < caps.length → ¬ (h < lim ∧ ld + volAt ls i ≤ capAt caps a) → Reach ls caps lim ⟨i, a + 1, 0, 0, out⟩) :=
        fun a h ld hr h1 h2 => Reach.advance hr hlt' h1 h2
      clear hlt'
      generalize (ls.getD i stopD).1 = id at *
      generalize volAt ls i = vol at *
      obtain ⟨wo, rfl⟩ : ∃ wo : World, wo = wr := ⟨_, rfl⟩
      gi_wp2
      gi_loopw [5, 6, 7] (R67i ls caps lim i w0.heap.size b1 b2 b3 J out wo.heap.size (id, vol) W) (fun u5 _ _ _ => nn - (intOf u5).toNat)
      case atStart => exact ⟨at_, held, load, hat, rfl, rfl, rfl, Hre.out, hJ1, hk1, Hbx.out⟩
      case round =>
        clear hJ1 hk1 hk hJs hat
        obtain ⟨at_, held, load, hat, rfl, rfl, rfl, hre, hJ1, hk, hbx⟩ := hrel
        have hat' : at_ < nn := by rw [Hcl.out] at hat; exact hat
        obtain ⟨g2, o2, rfl, hg2, hcc⟩ := hca.at hat'
        have ec : wr.cell? ⟨g2, o2 + at_, none⟩ = some (.int .i64 (capAt caps at_)) := ((hW.trans hk.below).cell (p := ⟨g2, o2 + at_, none⟩) hg2).trans hcc
        have hcb := hcap at_ hat'
        have y1 : wr.cell? ⟨b2, 0, none⟩ = some (.int .i64 lim) := by simp [World.cell?, hk.k2.trans Hb2.out]
        have y2 : wr.cell? ⟨b3, 0, none⟩ = some (.slice (some ⟨g2, o2, none⟩) nn c1) := by simp [World.cell?, hk.k3.trans Hb3.out]
        have y3 : wr.cell? ⟨wo.heap.size, 0, none⟩ = some (.int .i64 id) := by simp [World.cell?, hbx]
        have y4 : wr.cell? ⟨wo.heap.size, 1, none⟩ = some (.int .i64 vol) := by simp [World.cell?, hbx]
        have Hbx2 := Lib.hid hbx
        have hinv := hre.inv hv
        have l0 := hinv.load0
        have l1 := hinv.loadM
        have l2 := hinv.heldN
        have l3 := hinv.next
        dsimp only at l0 l1 l2 l3
        rw [Hl.out] at l3
        have Hre2 := Lib.hid hre
        clear hinv hcc hbx hre
        have Had := Lib.hid (Hadv.out at_ held load Hre2.out hat)
        have Hpl := Lib.hid (Hplace.out at_ held load Hre2.out hat)
        generalize capAt caps at_ = cx at *
        have hj0 : (0 : Int) ≤ (at_ : Int) := by omega
        have hj1 : (at_ : Int) < (nn : Int) := by omega
        by_cases hh : held < lim
        · by_cases hf : load + vol ≤ cx
          · have hf2 : ¬ cx < load + vol := by omega
            have hf3 : decide (cx < load + vol) = false := decide_eq_false hf2
            have hh3 : decide ((lim : Int) ≤ (held : Int)) = false := decide_eq_false (by omega)
            have hh2 : ¬ lim ≤ held := by omega
            have Hin : Hid (Reach ls caps lim ⟨i + 1, at_, held + 1, load + vol, out ++ [((id, vol, (held : Int), (at_ : Int)) : Seat)]⟩) := by
              have := Hpl.out hh hf
              rw [Hso.out] at this
              exact this
            have Hlen : Hid ((out ++ [((id, vol, (held : Int), (at_ : Int)) : Seat)]).length = i + 1) := by show _ = _; rw [List.length_append, Ho.out]; rfl
            gi_wp2
            gi_quiet (fail)
            have hJ2 : J out (wr.drewN nq) := hJ out wr _ none hJ1 (grownBy_drewN (World.grownBy.refl wr none) nq) (fun r e => by cases e)
            obtain ⟨fn, tmps, assign, body, hy, hR⟩ := hY out ((id, vol, (held : Int), (at_ : Int)) : Seat) (wr.drewN nq) hJ2 (by rw [Ho.out]; omega)
            have hy : (Instr.yield l #[.agg #[.int .i64 id, .int .i64 vol, .int .i64 (held : Int), .int .i64 (at_ : Int)]]).run Tryz.prog (wr.drewN nq) = .ok (.round l fn tmps assign body) (wr.drewN nq) := hy
            clear hJ2
            gi_wp2
            refine hR.mono ?_
            rintro e W3 (⟨rfl, hJ3, hk3⟩ | ⟨rfl, hJx3⟩)
            · have hk4 := (hk.drewN nq).trans hk3
              have x4 : W3.cell? ⟨wo.heap.size, 1, none⟩ = some (.int .i64 vol) := by simp [World.cell?, hk3.k4 _ _ _ (show (wr.drewN nq).heap[wo.heap.size]? = _ from Hbx2.out)]
              clear hR hy hk3
              gi_wp2
              go_roundw
              case rel => exact ⟨i + 1, at_, held + 1, load + vol, _, by omega, hat, by go_num, rfl, by go_num, rfl, Hin.out, Hlen.out, hJ3, hk4⟩
              case measure => simp [intOf] <;> omega
            · clear hR hy
              gi_wp2
              refine bodyPost_ret (results_none rfl _ _ _) rfl ?_
              exact ⟨⟨_, rfl⟩, .inr ⟨_, by rw [Hlen.out]; omega, hJx3⟩⟩
          · have hf2 : cx < load + vol := by omega
            have hf3 : decide (cx < load + vol) = true := decide_eq_true hf2
            have hh3 : decide ((lim : Int) ≤ (held : Int)) = false := decide_eq_false (by omega)
            have hh2 : ¬ lim ≤ held := by omega
            have Hre3 := Lib.hid (Had.out (fun hx => hf hx.2))
            by_cases hend : at_ + 1 < nn
            · gi_wp2
              gi_quiet (fail)
              gi_wp2
              go_roundw
              case rel => exact ⟨at_ + 1, 0, 0, by rw [Hcl.out]; exact hend, by go_num, rfl, rfl, Hre3.out, hJ out wr _ none hJ1 (grownBy_drewN (World.grownBy.refl wr none) nq) (fun r e => by cases e), hk.drewN nq, Hbx2.out⟩
              case measure => simp [intOf] <;> omega
            · have Hfin := Lib.hid (Hre3.out.final (fun hx => hend (by have := hx.2; dsimp only at this; rw [Hcl.out] at this; exact this)))
              gi_wp2
              gi_quiet (fail)
              gi_wp2
              refine bodyPost_ret (results_none rfl _ _ _) rfl ?_
              exact ⟨⟨_, rfl⟩, .inl ⟨out, by rw [← Hfin.out], hJ out wr _ none hJ1 (grownBy_drewN (World.grownBy.refl wr none) nq) (fun r e => by cases e)⟩⟩
        · have hh3 : decide ((lim : Int) ≤ (held : Int)) = true := decide_eq_true (by omega)
          have hh2 : lim ≤ held := by omega
          have Hre3 := Lib.hid (Had.out (fun hx => hh hx.1))
          by_cases hend : at_ + 1 < nn
          · gi_wp2
            gi_quiet (fail)
            gi_wp2
            go_roundw
            case rel => exact ⟨at_ + 1, 0, 0, by rw [Hcl.out]; exact hend, by go_num, rfl, rfl, Hre3.out, hJ out wr _ none hJ1 (grownBy_drewN (World.grownBy.refl wr none) nq) (fun r e => by cases e), hk.drewN nq, Hbx2.out⟩
            case measure => simp [intOf] <;> omega
          · have Hfin := Lib.hid (Hre3.out.final (fun hx => hend (by have := hx.2; dsimp only at this; rw [Hcl.out] at this; exact this)))
            gi_wp2
            gi_quiet (fail)
            gi_wp2
            refine bodyPost_ret (results_none rfl _ _ _) rfl ?_
            exact ⟨⟨_, rfl⟩, .inl ⟨out, by rw [← Hfin.out], hJ out wr _ none hJ1 (grownBy_drewN (World.grownBy.refl wr none) nq) (fun r e => by cases e)⟩⟩
    · obtain rfl : i = m := by omega
      have E := Lib.hid (hre.final (fun hx => by rw [Hl.out] at hx; exact Nat.lt_irrefl _ hx.1))
      gi_wp2
      go_end0
      exact ⟨⟨_, rfl⟩, .inl ⟨out, by rw [← E.out], hJs⟩⟩
set_option maxHeartbeats 1000000 in
theorem along_in (n : Nat) (ao bo : Option Addr) (m c nn c1 lim : Nat) (w : World) :
    CallsIn Fence.wide n Tryz.prog 43 #[.slice ao m c, .slice bo nn c1, .int .i64 lim] w fun e w' =>
      e = .returned (.func (.func 67) #[] #[.pointer (some ⟨w.heap.size, 0, none⟩), .pointer (some ⟨w.heap.size + 1 + 1, 0, none⟩), .pointer (some ⟨w.heap.size + 1, 0, none⟩)]) ∧
        w' = ((w.alloc (.cells #[.slice ao m c] 22)).alloc (.cells #[.slice bo nn c1] 23)).alloc (.cells #[.int .i64 lim] 3) := by
  refine callsIn_of_wp Tryz.func43 rfl trivial ?_ rfl
  simp only [Tryz.ntmps43, List.size_toArray, List.length_cons, List.length_nil, Nat.reduceAdd, Nat.reduceSub, Array.replicate_succ, Array.replicate_zero, List.push_toArray, List.append_toArray, List.nil_append, List.cons_append]
  gi_wp2
  go_ret
  exact ⟨by simp, rfl⟩

theorem along_stops (n : Nat) (hn : 1 ≤ n) (b1 b2 b3 : Nat) (ao bo : Option Addr) (m c nn c1 lim : Nat) (ls : List Stop) (caps : List Int) (w0 w : World)
    (hst : Stops w0 ao m ls) (hca : Ints w0 bo nn caps) (hv : goodVols ls) (hm : m ≤ 1000) (hnn : 1 ≤ nn) (hnn2 : nn ≤ 64) (hlim : lim ≤ 64) (hcap : ∀ i, i < nn → 1 ≤ capAt caps i ∧ capAt caps i ≤ 100000)
    (hW : Below w0.heap.size w0 w) (hb1 : w.heap[b1]? = some (.cells #[.slice ao m c] 22 (0, 0))) (hb2 : w.heap[b2]? = some (.cells #[.int .i64 lim] 3 (0, 0))) (hb3 : w.heap[b3]? = some (.cells #[.slice bo nn c1] 23 (0, 0))) :
    SeqStopsK Fence.wide n Tryz.prog 67 #[.pointer (some ⟨b1, 0, none⟩), .pointer (some ⟨b2, 0, none⟩), .pointer (some ⟨b3, 0, none⟩)] (fun x : Seat => #[seatV x]) (Kp3 w0.heap.size b1 b2 b3)
      (fun ys => ys = (finalSq ls caps lim).out) (fun pre => pre.length ≤ m) m w := fun l J Jx W hB hJ hJx hY h0 =>
  along1_in n hn l b1 b2 b3 ao bo m c nn c1 lim ls caps w0 hst hca hv hm hnn hnn2 hlim hcap J Jx hY W hJ (hW.trans (hB.mono hW.size))
    ((hB.block _ (Array.getElem?_eq_some_iff.1 hb1).1).trans hb1) ((hB.block _ (Array.getElem?_eq_some_iff.1 hb2).1).trans hb2) ((hB.block _ (Array.getElem?_eq_some_iff.1 hb3).1).trans hb3) h0
end Go.Proofs.YtpfinkdpaomliaaGreat
