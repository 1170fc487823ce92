/-
  'Sort' of the package.
-/
import Derived.Test.YtpfinkdpaomliaaGreatSortDo
namespace Go.Proofs.YtpfinkdpaomliaaGreat
open Go.RowKit Go.Maps

theorem three_at {w : World} {b : Nat} {v0 v1 v2 : Value} {t : TypeId} (h : w.heap[b]? = some (.cells #[v0, v1, v2] t (0, 0))) :
    w.cell? ⟨b, 0, none⟩ = some v0 ∧ w.cell? ⟨b, 1, none⟩ = some v1 ∧ w.cell? ⟨b, 2, none⟩ = some v2 ∧
      w.frozen? ⟨b, 0, none⟩ = false ∧ w.frozen? ⟨b, 1, none⟩ = false ∧ w.frozen? ⟨b, 2, none⟩ = false := by
  simp [World.cell?, World.frozen?, h]
theorem below_set3 {B b : Nat} {a w : World} (h : Below B a w) (hb : B ≤ b) (v0 v1 v2 : Value) : Below B a (((w.setCell ⟨b, 0, none⟩ v0).setCell ⟨b, 1, none⟩ v1).setCell ⟨b, 2, none⟩ v2) :=
  ((h.setCell (p := ⟨b, 0, none⟩) hb v0).setCell (p := ⟨b, 1, none⟩) hb v1).setCell (p := ⟨b, 2, none⟩) hb v2
theorem OwnI.set1 {B n cap : Nat} {w : World} {ao : Option Addr} {l : List Int} (h : OwnI B w ao n cap l) {b : Nat} (hb : b < B) (i : Nat) (v : Value) : OwnI B (w.setCell ⟨b, i, none⟩ v) ao n cap l :=
  ⟨h.sl.far (p := ⟨b, i, none⟩) (fun g hg e => by have := h.row g hg; have e : g = b := e; omega) v, h.len, h.row⟩
theorem Stk.set1 {B : Nat} {w : World} {b n : Nat} {ss : List Slc} {xss : List (List Int)} (h : Stk B w b n ss xss) {q : Nat} (hq : q < B) (i : Nat) (v : Value) : Stk B (w.setCell ⟨q, i, none⟩ v) b n ss xss :=
  ⟨⟨h.sl.sl.far (p := ⟨q, i, none⟩) (fun g hg e => by have := h.sl.row g hg; have e : g = q := e; omega) v, h.sl.len, h.sl.row⟩,
    h.fam.grown (grownBy_setCell w ⟨q, i, none⟩ v) (fun g hg k hk hx => by cases hg; have := (h.fam.at_ k hk).row _ hx; have : B ≤ q := this; omega), h.len⟩
theorem set_block {w : World} {b : Nat} {vs : Array Value} {t : TypeId} (h : w.heap[b]? = some (.cells vs t (0, 0))) (i : Nat) (v : Value) : (w.setCell ⟨b, i, none⟩ v).heap[b]? = some (.cells (vs.setIfInBounds i v) t (0, 0)) := by
  have hb := (Array.getElem?_eq_some_iff.1 h).1
  have h2 : w.heap[b] = .cells vs t (0, 0) := by rw [Array.getElem?_eq_getElem hb] at h; exact Option.some.inj h
  simp only [World.setCell]
  rw [Array.getElem?_eq_getElem (by simpa using hb)]
  simp [Array.getElem_modify, h2]
theorem boxes3 (w : World) (v1 v2 v3 : Array Value) (t1 t2 t3 : TypeId) :
    (((w.alloc (.cells v1 t1)).alloc (.cells v2 t2)).alloc (.cells v3 t3)).heap[w.heap.size]? = some (.cells v1 t1 (0, 0)) ∧ (((w.alloc (.cells v1 t1)).alloc (.cells v2 t2)).alloc (.cells v3 t3)).heap[w.heap.size + 1]? = some (.cells v2 t2 (0, 0)) ∧
      (((w.alloc (.cells v1 t1)).alloc (.cells v2 t2)).alloc (.cells v3 t3)).heap[w.heap.size + 1 + 1]? = some (.cells v3 t3 (0, 0)) := by
  refine ⟨?_, ?_, ?_⟩
  · exact ((Below.heap_alloc _ _ _ (by simp; omega)).trans (Below.heap_alloc _ _ _ (by simp))).trans (heap_alloc_new w _)
  · refine (Below.heap_alloc _ _ _ (by simp)).trans ?_
    have := heap_alloc_new (w.alloc (.cells v1 t1)) (.cells v2 t2)
    rw [show (w.alloc (.cells v1 t1)).heap.size = w.heap.size + 1 by simp] at this
    exact this
  · have := heap_alloc_new ((w.alloc (.cells v1 t1)).alloc (.cells v2 t2)) (.cells v3 t3)
    rw [show ((w.alloc (.cells v1 t1)).alloc (.cells v2 t2)).heap.size = w.heap.size + 1 + 1 by simp] at this
    exact this

def R20a (l : List Seat) (bm : Nat) (w0 : World) (u36 : Value) (wr : World) : Prop :=
  ∃ i : Nat, i ≤ l.length ∧ u36 = .int .i64 i ∧ MapI Tryz.prog 3 wr bm i (seatG (l.take i)) ∧ Below bm w0 wr ∧ wr.heap[bm + 1]? = some (.cells #[.map (some bm)] 107 (0, 0)) ∧ bm + 1 < wr.heap.size
def R20b (m B : Nat) (w0 : World) (u14 u58 : Value) (wr : World) : Prop :=
  ∃ (i : Nat) (ao : Option Addr) (cap : Nat), i ≤ m ∧ u14 = .slice ao i cap ∧ u58 = .int .i64 i ∧ OwnI B wr ao i cap (natI (List.range i)) ∧ Below B w0 wr

set_option maxRecDepth 1000000 in
set_option maxHeartbeats 4000000 in
theorem sort_any2 (w : World) (a0 a1 a2 a3 ai : Option Addr) (n c0 m c1 n2 c2 n3 c3 mi ci : Nat) (p : PlanP) (items : List Int) (hc : Ints w a0 n p.caps) (h : Seats w a1 m p.seats) (hf : Ints w a2 n2 p.first) (hg : Ints w a3 n3 p.second) (hit : Ints w ai mi items)
    (hwf : WfI items) (hwf2 : ∀ i, i < m → (Lit.int .i64 (Seat.stop (p.seats.getD i seatD))).wf = true) (hn : n ≤ 1048576) (hm : m ≤ 1048576) (hn2 : n2 ≤ 1048576) (hn3 : n3 ≤ 1048576) (hmi : mi ≤ 1048576) :
    Calls Tryz.prog 20 #[.agg #[.slice a0 n c0, .slice a1 m c1, .slice a2 n2 c2, .slice a3 n3 c3], .slice ai mi ci] w fun e w' => SortR2 w.heap.size w' e n p items ∧ Below w.heap.size w w' := by
  have Hl := Lib.hid h.len
  have Hcl := Lib.hid hc.len
  have Hil := Lib.hid hit.len
  have hb0 : Below w.heap.size w (((w.alloc (.cells #[.slice a0 n c0, .slice a1 m c1, .slice a2 n2 c2, .slice a3 n3 c3] 36)).alloc (.cells #[.slice ai mi ci] 23)).alloc (.cells #[.slice none 0 0, .slice none 0 0, .slice none 0 0] 52)) :=
    (((Below.refl _ _).alloc (Nat.le_refl _) _).alloc (by simp) _).alloc (by simp; omega) _
  have Hch := Lib.hid (check_any (((w.alloc (.cells #[.slice a0 n c0, .slice a1 m c1, .slice a2 n2 c2, .slice a3 n3 c3] 36)).alloc (.cells #[.slice ai mi ci] 23)).alloc (.cells #[.slice none 0 0, .slice none 0 0, .slice none 0 0] 52)) a0 a1 a2 a3 n c0 m c1 n2 c2 n3 c3 p (hc.below hb0) (h.below hb0) (hf.below hb0) (hg.below hb0) hn hm hn2 hn3)
  have hit0 := hit.below hb0
  have h0 := h.below hb0
  obtain ⟨hpl, hib, hre⟩ := boxes3 w #[.slice a0 n c0, .slice a1 m c1, .slice a2 n2 c2, .slice a3 n3 c3] #[.slice ai mi ci] #[.slice none 0 0, .slice none 0 0, .slice none 0 0] 36 23 52
  have Hpl := Lib.hid hpl
  have Hib := Lib.hid hib
  have Hre := Lib.hid hre
  have Hb0 := Lib.hid hb0
  have Hit0 := Lib.hid hit0
  have H0 := Lib.hid h0
  have Hsz0 : Hid ((((w.alloc (.cells #[.slice a0 n c0, .slice a1 m c1, .slice a2 n2 c2, .slice a3 n3 c3] 36)).alloc (.cells #[.slice ai mi ci] 23)).alloc (.cells #[.slice none 0 0, .slice none 0 0, .slice none 0 0] 52)).heap.size = w.heap.size + 1 + 1 + 1) := by show _ = _; simp
  have Hwf := Lib.hid hwf
  have Hwf2 := Lib.hid hwf2
  clear hpl hib hre hb0 hit0 h0 hc h hf hg hit hwf hwf2
  go_enter Tryz.func20, Tryz.ntmps20
  by_cases hch : (checkP p).2 = 0
  · obtain ⟨hmc, hm2, hgood⟩ := check_ok hch
    have hmach := machine_caps hmc
    rw [Hcl.out] at hmach hgood
    rw [Hl.out] at hm2
    have r1 : ((checkP p).2 != 0) = false := by rw [hch]; rfl
    have Hgood := Lib.hid hgood
    clear hgood hmc
    by_cases hlen : 2000 < mi
    · have E : Hid (sortErr p items = 5) := by show _ = _; unfold sortErr; rw [if_neg (fun h => h hch), if_pos (by rw [Hil.out]; exact hlen)]
      clear hch
      generalize (checkP p).1 = i0 at *
      generalize (checkP p).2 = e0 at *
      go_wp2_with (go_at_call 33; refine Hch.out.mono ?_; rintro e w1 ⟨rfl, hb1⟩; obtain ⟨q0, _⟩ := one_at ((hb1.block _ (by rw [Hsz0.out]; omega)).trans Hib.out); obtain ⟨z0, z1, z2, z3, z4, z5⟩ := three_at ((hb1.block _ (by rw [Hsz0.out]; omega)).trans Hre.out))
      exact bodyPost_ret (v := .tuple #[.agg #[.slice none 0 0, .slice none 0 0, .slice none 0 0], .int .i64 5]) (by simp [results, Tryz.results20, go_sem, z0, z1, z2]) rfl ⟨.inl ⟨by rw [E.out]; decide, by rw [E.out]⟩, below_set3 (Hb0.out.trans (hb1.mono (by rw [Hsz0.out]; omega))) (by omega) _ _ _⟩
    · have hmi2 : mi ≤ 2000 := by omega
      have E1 : Hid (sortErr p items = feedP p.seats items) := by show _ = _; unfold sortErr; rw [if_neg (fun h => h hch), if_neg (by rw [Hil.out]; exact hlen)]
      have hmm := fun w => run_makeMap_n (P := Tryz.prog) 107 3 64 Tryz.underlying107 m w
      clear hch
      generalize (checkP p).1 = i0 at *
      generalize (checkP p).2 = e0 at *
      go_wp2_with (go_at_call 33; refine Hch.out.mono ?_; rintro e w1 ⟨rfl, hb1⟩; obtain ⟨q0, _⟩ := one_at ((hb1.block _ (by rw [Hsz0.out]; omega)).trans Hib.out); obtain ⟨p0, p1, p2, p3, _⟩ := four_at ((hb1.block _ (by rw [Hsz0.out]; omega)).trans Hpl.out); have hs1 := hb1.size; rw [Hsz0.out] at hs1; have p1b : ((w1.alloc (.map #[] 0)).alloc (.cells #[.map (some w1.heap.size)] 107)).cell? ⟨w.heap.size, 1, none⟩ = some (.slice a1 m c1) := ((((Below.refl w1.heap.size w1).alloc (Nat.le_refl _) (.map #[] 0)).alloc (by simp) (.cells #[.map (some w1.heap.size)] 107)).cell (p := ⟨w.heap.size, 1, none⟩) (by show w.heap.size < _; omega)).trans p1)
      have hmap0 : MapI Tryz.prog 3 ((w1.alloc (.map #[] 0)).alloc (.cells #[.map (some w1.heap.size)] 107)) w1.heap.size 0 (seatG (p.seats.take 0)) := ((MapI.made _ _ w1).congr (fun x => by rw [List.take_zero, seatG_nil])).alloc _
      have hbk0 : Below w1.heap.size w1 ((w1.alloc (.map #[] 0)).alloc (.cells #[.map (some w1.heap.size)] 107)) := ((Below.refl _ _).alloc (Nat.le_refl _) _).alloc (by simp) _
      have hbx0 : ((w1.alloc (.map #[] 0)).alloc (.cells #[.map (some w1.heap.size)] 107)).heap[w1.heap.size + 1]? = some (.cells #[.map (some w1.heap.size)] 107 (0, 0)) := by
        have := heap_alloc_new (w1.alloc (.map #[] 0)) (.cells #[.map (some w1.heap.size)] 107)
        rw [show (w1.alloc (.map #[] 0)).heap.size = w1.heap.size + 1 by simp] at this
        exact this
      have hs1m := (H0.out.below hb1)
      have H1m := Lib.hid hs1m
      have Hit1 := Lib.hid (Hit0.out.below hb1)
      have Hb1 := Lib.hid (Hb0.out.trans (hb1.mono (B' := w.heap.size) (by rw [Hsz0.out]; omega)))
      have Hre1 := Lib.hid ((hb1.block _ (by rw [Hsz0.out]; omega)).trans Hre.out)
      have Hpl1 := Lib.hid (And.intro p0 (And.intro p1 q0))
      clear hb1 hs1m p1b p0 p1 p2 p3 q0 Hch H0 Hit0 Hb0 Hre Hpl Hib Hsz0
      go_loopw [36] (R20a p.seats w1.heap.size w1) (fun u36 _ => m - (intOf u36).toNat)
      case atStart => exact ⟨0, Nat.zero_le _, rfl, hmap0, hbk0, hbx0, by simp⟩
      case round =>
        clear hmap0 hbk0 hbx0 hmm
        obtain ⟨i, hi, rfl, hmap, hb, hbx, hbl⟩ := hrel
        have hsz := hb.size
        obtain ⟨hbc, _⟩ := one_at hbx
        by_cases hlt : i < m
        · obtain ⟨g, off, rfl, hg, e0, e1, e2, e3⟩ := Seats.at (H1m.out.below hb) hlt
          have Hput := Lib.hid (seatG_put Hgood.out.stops (i := i) (by rw [Hl.out]; exact hlt))
          have hw := Hwf2.out i hlt
          unfold seatV at Hput
          generalize Seat.stop (p.seats.getD i seatD) = x0 at *
          generalize Seat.vol (p.seats.getD i seatD) = x1 at *
          generalize Seat.first (p.seats.getD i seatD) = x2 at *
          generalize Seat.second (p.seats.getD i seatD) = x3 at *
          have hmap1 := hmap.alloc (.cells #[.int .i64 x0, .int .i64 x1, .int .i64 x2, .int .i64 x3] 64)
          have hb2 := hb.alloc hsz (.cells #[.int .i64 x0, .int .i64 x1, .int .i64 x2, .int .i64 x3] 64)
          have Hmap1 := Lib.hid hmap1
          have Hb2 := Lib.hid hb2
          clear hmap hmap1 hb2
          go_wp2_with (at_mapUpdate; refine wpList_mapUpdate_I _ rfl _ _ _ 107 rfl 3 64 Tryz.underlying3 Tryz.underlying107 w1.heap.size i (seatG (p.seats.take i)) rfl Hmap1.out (by unfold maxLen; omega) x0 (.agg #[.int .i64 x0, .int .i64 x1, .int .i64 x2, .int .i64 x3]) rfl rfl hw ?_)
          intro w2 hset2 hgr
          have hb3 : Below w1.heap.size w1 w2 := Hb2.out.grown hgr Hb2.out.size (fun g hg => by cases hg; exact Nat.le_refl _)
          have hbx2 : w2.heap[w1.heap.size + 1]? = some (.cells #[.map (some w1.heap.size)] 107 (0, 0)) := (hgr.block _ (by simp; omega) (by simp)).trans ((Below.heap_alloc _ _ _ hbl).trans hbx)
          have hsz3 := hgr.size
          simp at hsz3
          have hset3 := MapI.congr hset2 Hput.out
          clear hset2 hgr
          go_wp2_with fail
          go_roundw
          case rel => exact ⟨i + 1, by rw [Hl.out]; exact hlt, by go_num, hset3, hb3, hbx2, by omega⟩
          case measure => simp [intOf] <;> omega
        · obtain rfl : i = m := by rw [Hl.out] at hi; omega
          have Et : Hid (p.seats.take i = p.seats) := List.take_of_length_le (by rw [Hl.out]; exact Nat.le_refl _)
          rw [Et.out] at hmap
          have q0 : wr.cell? ⟨w.heap.size + 1, 0, none⟩ = some (.slice ai mi ci) := (hb.cell (p := ⟨w.heap.size + 1, 0, none⟩) (by show w.heap.size + 1 < _; omega)).trans Hpl1.out.2.2
          have p0 : wr.cell? ⟨w.heap.size, 0, none⟩ = some (.slice a0 n c0) := (hb.cell (p := ⟨w.heap.size, 0, none⟩) (by show w.heap.size < _; omega)).trans Hpl1.out.1
          have hre2 := (hb.block _ (by omega)).trans Hre1.out
          have hit2 := Hit1.out.below hb
          have hfe := feed_any wr w1.heap.size i ai mi ci p.seats items hmap hit2 Hwf.out hmi
          have Hfe := Lib.hid hfe
          have Hre2 := Lib.hid hre2
          have Hpq := Lib.hid (And.intro p0 (And.intro q0 hbc))
          have Hb2 := Lib.hid (Hb1.out.trans (hb.mono (B' := w.heap.size) (by omega)))
          clear Hit1 hb hfe hre2 Hre1 Hpl1 Hb1
          by_cases hfd : feedP p.seats items = 0
          · have E : Hid (sortErr p items = 0) := by show _ = _; rw [E1.out, hfd]
            have r2 : (feedP p.seats items != 0) = false := by rw [hfd]; rfl
            have Hfd := Lib.hid hfd
            clear hfd
            obtain ⟨ii, hii, hz0, hz1, hz2⟩ := info_parts infoI
            have hmk : ∀ w : World, (Instr.makeSlice 23 (.int .i64 0) (.int .i64 (mi : Int))).run Tryz.prog w = .ok (.slice (some ⟨w.heap.size, 0, none⟩) 0 mi) (w.alloc (.cells (madeCells #[.int .i64 0] mi) 3)) := fun w => by
              have hr := run_make (P := Tryz.prog) w 23 3 ii _ Tryz.underlying23 hii hz0 .i64 .i64 0 (mi : Int) (by omega) (by omega) (by rw [hz2]; omega) (by omega)
              rw [hz1] at hr
              simpa [Value.cells] using hr
            go_wp2_with (go_at_call 48; refine Hfe.out.mono ?_; rintro e w2 ⟨rfl, hb2⟩; obtain ⟨p0, q0, hbc⟩ := Hpq.out; have hs2 := hb2.size; have p0 := (hb2.cell (p := ⟨w.heap.size, 0, none⟩) (by show w.heap.size < _; omega)).trans p0; have q0 := (hb2.cell (p := ⟨w.heap.size + 1, 0, none⟩) (by show w.heap.size + 1 < _; omega)).trans q0; have hbr := (((Below.refl w2.heap.size w2).alloc (Nat.le_refl _) (.cells #[.slice none 0 0, .slice none 0 0, .slice none 0 0] 52))); have q1 := (hbr.cell (p := ⟨w.heap.size + 1, 0, none⟩) (by show w.heap.size + 1 < _; omega)).trans q0; have hbr2 := hbr.alloc (by simp) (.cells (madeCells #[.int .i64 0] mi) 3); have q2 := (hbr2.cell (p := ⟨w.heap.size + 1, 0, none⟩) (by show w.heap.size + 1 < _; omega)).trans q0)
            have hrun : ((w2.alloc (.cells #[.slice none 0 0, .slice none 0 0, .slice none 0 0] 52)).alloc (.cells (madeCells #[.int .i64 0] mi) 3)).heap[w2.heap.size]? = some (.cells #[.slice none 0 0, .slice none 0 0, .slice none 0 0] 52 (0, 0)) :=
              (Below.heap_alloc _ _ _ (by simp)).trans (heap_alloc_new w2 _)
            have hown0 : OwnI (w2.heap.size + 1) ((w2.alloc (.cells #[.slice none 0 0, .slice none 0 0, .slice none 0 0] 52)).alloc (.cells (madeCells #[.int .i64 0] mi) 3)) (some ⟨w2.heap.size + 1, 0, none⟩) 0 mi (natI (List.range 0)) := by
              have hsl := Sl.made (w2.alloc (.cells #[.slice none 0 0, .slice none 0 0, .slice none 0 0] 52)) 3 (.int .i64 0) 0 mi (Nat.zero_le _) (by unfold maxLen; omega)
              rw [show (w2.alloc (.cells #[.slice none 0 0, .slice none 0 0, .slice none 0 0] 52)).heap.size = w2.heap.size + 1 by simp] at hsl
              exact ⟨hsl.congr fun j hj => absurd hj (by omega), rfl, fun g hg => by rw [rowOf_new hg]; exact Nat.le_refl _⟩
            have hwt0 : ((w2.alloc (.cells #[.slice none 0 0, .slice none 0 0, .slice none 0 0] 52)).alloc (.cells (madeCells #[.int .i64 0] mi) 3)).heap.size = w2.heap.size + 1 + 1 := by simp
            have Hwt0 := Lib.hid hwt0
            have Hrun := Lib.hid hrun
            have Hw2 : Hid (Below w.heap.size w w2) := Hb2.out.trans (hb2.mono (B' := w.heap.size) (by omega))
            have Hhm := Lib.hid (hmap.below hb2)
            have Hhi := Lib.hid (hit2.below hb2)
            have Hb22 := Lib.hid hbr2
            have Hq := Lib.hid (And.intro p0 (And.intro q0 ((hb2.cell (p := ⟨w1.heap.size + 1, 0, none⟩) hbl).trans Hpq.out.2.2)))
            have Hrb := Lib.hid ((hb2.block _ (by omega)).trans Hre2.out)
            have hl2 : w1.heap.size + 1 < w2.heap.size := by omega
            clear hrun hwt0 hbr hbr2 hb2 q0 q1 q2 p0 hbc hmap hit2 Hfe
            generalize (w2.alloc (.cells #[.slice none 0 0, .slice none 0 0, .slice none 0 0] 52)).alloc (.cells (madeCells #[.int .i64 0] mi) 3) = wt at *
            go_loopw [14, 58] (R20b mi (w2.heap.size + 1) wt) (fun _ u58 _ => mi - (intOf u58).toNat)
            case atStart => exact ⟨0, _, _, Nat.zero_le _, rfl, rfl, hown0, Below.refl _ _⟩
            case round =>
              clear hown0 hmk
              obtain ⟨j, ao, cap, hj, rfl, rfl, hown, hb⟩ := hrel
              have hsz := hb.size
              rw [Hwt0.out] at hsz
              by_cases hlt : j < mi
              · have hown1 := hown.alloc (.cells #[.int .i64 (j : Int)] 3)
                have hb1 := hb.alloc (by omega) (.cells #[.int .i64 (j : Int)] 3)
                have Hown1 := Lib.hid hown1
                have Hb1 := Lib.hid hb1
                clear hown hb hown1 hb1
                go_wp2_with (at_builtin; refine wpList_append_sl _ rfl (.tmp 61) (.tmp 63) 23 rfl 3 ii _ 1 8 Tryz.underlying23 hii hz0 hz1 hz2 rfl rfl Hown1.out.sl ⟨wr.heap.size, 0, none⟩ 1 1 [.int .i64 (j : Int)] rfl rfl (cell_one_at _ _ _ _ rfl) (by intro u hu; simp at hu; subst hu; rfl) (by unfold maxLen; omega) (by omega) ?_)
                intro ao2 cap2 w3 ha
                have hown3 := ownI_app (ys := [(j : Int)]) Hown1.out (by simp; omega) rfl rfl rfl (by first | exact ha | (simp at ha; exact ha) | simpa using ha)
                have hb3 := Hb1.out.grown ha.grown (by simp; omega) Hown1.out.row
                rw [← natI_take_range] at hown3
                clear ha
                go_wp2_with fail
                go_roundw
                case rel => exact ⟨j + 1, ao2, cap2, hlt, rfl, by go_num, hown3, hb3⟩
                case measure => simp [intOf] <;> omega
              · obtain rfl : j = mi := by omega
                have hhas := feed_has Hfd.out
                have hsel := fun f (hf : f < items.length) => sel_ok Hgood.out hhas hf
                have hbw := Hb22.out.trans (hb.mono (B' := w2.heap.size) (by omega))
                have Hbw := Lib.hid hbw
                have hrunw := (hb.block w2.heap.size (by omega)).trans Hrun.out
                have Hrunw := Lib.hid hrunw
                have Hbase : Hid (∀ W, Below w2.heap.size w2 W → W.cell? ⟨w.heap.size, 0, none⟩ = some (.slice a0 n c0) ∧ W.cell? ⟨w.heap.size + 1, 0, none⟩ = some (.slice ai j ci) ∧ W.cell? ⟨w1.heap.size + 1, 0, none⟩ = some (.map (some w1.heap.size)) ∧
                    W.heap[w.heap.size + 1 + 1]? = some (.cells #[.slice none 0 0, .slice none 0 0, .slice none 0 0] 52 (0, 0)) ∧ MapI Tryz.prog 3 W w1.heap.size i (seatG p.seats) ∧ Ints W ai j items) := fun W hW =>
                  ⟨(hW.cell (p := ⟨w.heap.size, 0, none⟩) (by show w.heap.size < _; omega)).trans Hq.out.1, (hW.cell (p := ⟨w.heap.size + 1, 0, none⟩) (by show w.heap.size + 1 < _; omega)).trans Hq.out.2.1, (hW.cell (p := ⟨w1.heap.size + 1, 0, none⟩) hl2).trans Hq.out.2.2,
                    (hW.block _ (by omega)).trans Hrb.out, Hhm.out.below hW, Hhi.out.below hW⟩
                have hn64 : 1 ≤ n ∧ n ≤ 64 := hmach.1
                have hfl : (pass1 p items).flatten.length = j := by
                  unfold pass1
                  rw [pass_flat_eq _ _ _ (fun f hf => by rw [Hcl.out]; exact (hsel f (List.mem_range.1 hf)).2.2.1), List.length_range, Hil.out]
                have hp1e : pass1 p items = passP n (selF p.seats items) (List.range j) := by unfold pass1; rw [Hcl.out, Hil.out]
                have hp2e : pass2 p items = passP n (selS p.seats items) (pass1 p items).flatten := by unfold pass2; rw [Hcl.out]
                have hmem1 : ∀ f ∈ (pass1 p items).flatten, f < items.length := fun f hf => by
                  unfold pass1 at hf
                  exact List.mem_range.1 (pass_mem hf)
                have hP1 : Calls Tryz.prog 49 #[.slice ao j cap, .func (.func 51) #[] #[], .pointer (some ⟨w.heap.size, 0, none⟩), .pointer (some ⟨w1.heap.size + 1, 0, none⟩), .pointer (some ⟨w.heap.size + 1, 0, none⟩)] wr fun e w' =>
                    PassR wr.heap.size w' e n (pass1 p items) ∧ Below wr.heap.size wr w' := by
                  obtain ⟨p0, q0, hbc, _, hmp, hin⟩ := Hbase.out wr hbw
                  have hsz := hbw.size
                  rw [hp1e]
                  exact pass51_any wr w.heap.size (w1.heap.size + 1) (w.heap.size + 1) w1.heap.size i n j cap j ci a0 c0 ai ao p.seats items (List.range j) p0 hbc q0 (by omega) (by omega) (by omega) hmp hin Hwf.out hown.ints hn64.1 hn64.2 hmi2 hmi
                    (fun f hf => by have hf := List.mem_range.1 hf; exact ⟨hf, hhas f (by rw [Hil.out]; exact hf), (hsel f (by rw [Hil.out]; exact hf)).1⟩) (fun f hf => (hsel f (by rw [Hil.out]; exact List.mem_range.1 hf)).2.2.1)
                have hP2 : ∀ (W : World) (bo : Option Addr) (capo : Nat), Below w2.heap.size w2 W → Ints W bo j (natI (pass1 p items).flatten) → Calls Tryz.prog 49 #[.slice bo j capo, .func (.func 52) #[] #[], .pointer (some ⟨w.heap.size, 0, none⟩), .pointer (some ⟨w1.heap.size + 1, 0, none⟩), .pointer (some ⟨w.heap.size + 1, 0, none⟩)] W fun e w' =>
                    PassR W.heap.size w' e n (pass2 p items) ∧ Below W.heap.size W w' := by
                  intro W bo capo hW hfed
                  obtain ⟨p0, q0, hbc, _, hmp, hin⟩ := Hbase.out W hW
                  have hsz := hW.size
                  rw [hp2e]
                  exact pass52_any W w.heap.size (w1.heap.size + 1) (w.heap.size + 1) w1.heap.size i n j capo j ci a0 c0 ai bo p.seats items _ p0 hbc q0 (by omega) (by omega) (by omega) hmp hin Hwf.out hfed hn64.1 hn64.2 hmi2 hmi
                    (fun f hf => by have hf := hmem1 f hf; exact ⟨by rw [← Hil.out]; exact hf, hhas f hf, (hsel f hf).2.1⟩) (fun f hf => (hsel f (hmem1 f hf)).2.2.2)
                have HP1 := Lib.hid hP1
                have HP2 := Lib.hid hP2
                have Hfl := Lib.hid hfl
                have hw2r : w2.heap.size + 1 ≤ wr.heap.size := by omega
                clear hP1 hP2 hhas hsel hp1e hp2e hmem1 hfl hb hown hbw hrunw
                go_wp2_with (first
                  | (go_at_call_of 49 (Value.slice ao j cap); refine HP1.out.mono ?_; rintro e w3 ⟨⟨b1, ss1, bo1, N1, cap1, s1, rfl, hst1, hown1, hs1, hb1, hrow1⟩, hb3⟩
                     obtain rfl : N1 = j := by rw [← hown1.len, natI_len, Hfl.out]
                     have hrun3 := (hb3.block w2.heap.size (by omega)).trans Hrunw.out
                     obtain ⟨x0, x1, x2, x3, x4, x5⟩ := three_at hrun3
                     have hs3 := hb3.size
                     have hbw3 := (Hbw.out.trans (hb3.mono (B' := w2.heap.size) (by omega))).setCell (p := ⟨w2.heap.size, 0, none⟩) (Nat.le_refl _) (.slice (some ⟨b1, 0, none⟩) n n)
                     have hst1' := hst1.set1 (q := w2.heap.size) (by omega) 0 (.slice (some ⟨b1, 0, none⟩) n n)
                     have hown1' := hown1.set1 (b := w2.heap.size) (by omega) 0 (.slice (some ⟨b1, 0, none⟩) n n)
                     have hrun3' := set_block hrun3 0 (.slice (some ⟨b1, 0, none⟩) n n)
                     have hz3 : (w3.setCell ⟨w2.heap.size, 0, none⟩ (.slice (some ⟨b1, 0, none⟩) n n)).heap.size = w3.heap.size := by simp
                     have Hsecond := Lib.hid (HP2.out (w3.setCell ⟨w2.heap.size, 0, none⟩ (.slice (some ⟨b1, 0, none⟩) n n)) bo1 cap1 hbw3 hown1'.ints)
                     clear hrun3 hown1 hown1' hst1)
                  | (go_at_call 49; refine Hsecond.out.mono ?_; rintro e w4 ⟨⟨b2, ss2, bo2, N2, cap2, s2, rfl, hst2, hown2, hs2', hb2', hrow2⟩, hb4⟩
                     have hrun4 := (hb4.block w2.heap.size (by rw [hz3]; omega)).trans hrun3'
                     have hs4 := hb4.size
                     rw [hz3] at hs4
                     obtain ⟨y0, y1, y2, y3, y4, y5⟩ := three_at hrun4
                     have hrun5 := set_block (set_block hrun4 1 (.slice (some ⟨b2, 0, none⟩) n n)) 2 (.slice bo2 N2 cap2)
                     obtain ⟨t0, t1, t2, _, _, _⟩ := three_at hrun5
                     have hbw4 := hbw3.trans (hb4.mono (B' := w2.heap.size) (by rw [hz3]; omega))
                     have hbw5 := (hbw4.setCell (p := ⟨w2.heap.size, 1, none⟩) (Nat.le_refl _) (.slice (some ⟨b2, 0, none⟩) n n)).setCell (p := ⟨w2.heap.size, 2, none⟩) (Nat.le_refl _) (.slice bo2 N2 cap2)
                     have hres5 := (Hbase.out _ hbw5).2.2.2.1
                     obtain ⟨z0, z1, z2, z3, z4, z5⟩ := three_at hres5))
                have hrw1 : ∀ k, k < n → ∀ g, rowOf (ss1.getD k slcD).ao (ss1.getD k slcD).cap = some g → g < w3.heap.size := fun k hk g hg => by
                  have := (hst1'.fam.at_ k (by rw [hst1'.len]; exact hk)).sl.row_lt g hg
                  rw [hz3] at this
                  exact this
                have hfin := set_block (set_block (set_block hres5 0 (.slice (some ⟨b1, 0, none⟩) n n)) 1 (.slice (some ⟨b2, 0, none⟩) n n)) 2 (.slice bo2 N2 cap2)
                obtain ⟨f0, f1, f2, _, _, _⟩ := three_at hfin
                have hq1 : w.heap.size + 1 + 1 < wr.heap.size := by omega
                have S1 := (((((hst1'.below hb4).set1 (q := w2.heap.size) (by omega) 1 (.slice (some ⟨b2, 0, none⟩) n n)).set1 (q := w2.heap.size) (by omega) 2 (.slice bo2 N2 cap2)).set1 (q := w.heap.size + 1 + 1) hq1 0 (.slice (some ⟨b1, 0, none⟩) n n)).set1 (q := w.heap.size + 1 + 1) hq1 1 (.slice (some ⟨b2, 0, none⟩) n n)).set1 (q := w.heap.size + 1 + 1) hq1 2 (.slice bo2 N2 cap2)
                have hst2' := hst2.mono (B' := w3.heap.size) (by rw [hz3]; exact Nat.le_refl _)
                have hq3 : w.heap.size + 1 + 1 < w3.heap.size := by omega
                have S2 := ((((hst2'.set1 (q := w2.heap.size) (by omega) 1 (.slice (some ⟨b2, 0, none⟩) n n)).set1 (q := w2.heap.size) (by omega) 2 (.slice bo2 N2 cap2)).set1 (q := w.heap.size + 1 + 1) hq3 0 (.slice (some ⟨b1, 0, none⟩) n n)).set1 (q := w.heap.size + 1 + 1) hq3 1 (.slice (some ⟨b2, 0, none⟩) n n)).set1 (q := w.heap.size + 1 + 1) hq3 2 (.slice bo2 N2 cap2)
                rw [hz3] at hs2'
                have hq4 : w.heap.size + 1 + 1 < s2 := by omega
                have hown2' := hown2
                have O2 := ((((hown2'.set1 (b := w2.heap.size) (by omega) 1 (.slice (some ⟨b2, 0, none⟩) n n)).set1 (b := w2.heap.size) (by omega) 2 (.slice bo2 N2 cap2)).set1 (b := w.heap.size + 1 + 1) hq4 0 (.slice (some ⟨b1, 0, none⟩) n n)).set1 (b := w.heap.size + 1 + 1) hq4 1 (.slice (some ⟨b2, 0, none⟩) n n)).set1 (b := w.heap.size + 1 + 1) hq4 2 (.slice bo2 N2 cap2)
                have hbf := below_set3 (Hw2.out.trans (hbw5.mono (B' := w.heap.size) (by omega))) (show w.heap.size ≤ w.heap.size + 1 + 1 by omega) (.slice (some ⟨b1, 0, none⟩) n n) (.slice (some ⟨b2, 0, none⟩) n n) (.slice bo2 N2 cap2)
                exact bodyPost_ret (v := .tuple #[.agg #[.slice (some ⟨b1, 0, none⟩) n n, .slice (some ⟨b2, 0, none⟩) n n, .slice bo2 N2 cap2], .int .i64 0]) (by simp [results, Tryz.results20, go_sem, f0, f1, f2]) rfl
                  ⟨.inr ⟨E.out, b1, ss1, b2, ss2, bo2, N2, cap2, w3.heap.size, s2, rfl, S1.mono (by omega), S2, O2, by omega, hs2', hrw1, hrow2⟩, hbf⟩
          · have E : Hid (sortErr p items ≠ 0) := by show _ ≠ _; rw [E1.out]; exact hfd
            have r2 : (feedP p.seats items != 0) = true := by rw [bne_iff_ne]; exact hfd
            clear hfd
            generalize feedP p.seats items = ef at *
            go_wp2_with (go_at_call 48; refine Hfe.out.mono ?_; rintro e w2 ⟨rfl, hb2⟩; obtain ⟨z0, z1, z2, z3, z4, z5⟩ := three_at ((hb2.block _ (by omega)).trans Hre2.out))
            exact bodyPost_ret (v := .tuple #[.agg #[.slice none 0 0, .slice none 0 0, .slice none 0 0], .int .i64 ef]) (by simp [results, Tryz.results20, go_sem, z0, z1, z2]) rfl ⟨.inl ⟨E.out, by rw [E1.out]⟩, below_set3 (Hb2.out.trans (hb2.mono (by omega))) (by omega) _ _ _⟩
  · have E : Hid (sortErr p items = (checkP p).2) := by show _ = _; unfold sortErr; rw [if_pos hch]
    have E0 : Hid (sortErr p items ≠ 0) := by show _ ≠ _; rw [E.out]; exact hch
    have r1 : ((checkP p).2 != 0) = true := by rw [bne_iff_ne]; exact hch
    clear hch
    generalize (checkP p).1 = i0 at *
    generalize (checkP p).2 = e0 at *
    go_wp2_with (go_at_call 33; refine Hch.out.mono ?_; rintro e w1 ⟨rfl, hb1⟩; have hre1 := (hb1.block _ (by rw [Hsz0.out]; omega)).trans Hre.out; obtain ⟨z0, z1, z2, z3, z4, z5⟩ := three_at hre1)
    exact bodyPost_ret (v := .tuple #[.agg #[.slice none 0 0, .slice none 0 0, .slice none 0 0], .int .i64 e0]) (by simp [results, Tryz.results20, go_sem, z0, z1, z2]) rfl ⟨.inl ⟨E0.out, by rw [E.out]⟩, below_set3 (Hb0.out.trans (hb1.mono (by rw [Hsz0.out]; omega))) (by omega) _ _ _⟩
theorem sort_any (w : World) (a0 a1 a2 a3 ai : Option Addr) (n c0 m c1 n2 c2 n3 c3 mi ci : Nat) (p : PlanP) (items : List Int) (hc : Ints w a0 n p.caps) (h : Seats w a1 m p.seats) (hf : Ints w a2 n2 p.first) (hg : Ints w a3 n3 p.second) (hit : Ints w ai mi items)
    (hwf : WfI items) (hwf2 : ∀ i, i < m → (Lit.int .i64 (Seat.stop (p.seats.getD i seatD))).wf = true) (hn : n ≤ 1048576) (hm : m ≤ 1048576) (hn2 : n2 ≤ 1048576) (hn3 : n3 ≤ 1048576) (hmi : mi ≤ 1048576) :
    Calls Tryz.prog 20 #[.agg #[.slice a0 n c0, .slice a1 m c1, .slice a2 n2 c2, .slice a3 n3 c3], .slice ai mi ci] w fun e w' => SortR w.heap.size w' e n p items ∧ Below w.heap.size w w' :=
  (sort_any2 w a0 a1 a2 a3 ai n c0 m c1 n2 c2 n3 c3 mi ci p items hc h hf hg hit hwf hwf2 hn hm hn2 hn3 hmi).mono fun _ _ ⟨h1, h2⟩ => ⟨h1.weak, h2⟩
end Go.Proofs.YtpfinkdpaomliaaGreat
