/-
  'Sort' of the reference.
-/
import Derived.Test.YtpfinkdpaomliaaGreatRefRun
namespace Go.Proofs.YtpfinkdpaomliaaGreat
open Go.RowKit

/-- The reference's run: lists to be read. -/
def RefSortR (w : World) (e : Ending) (n : Nat) (p : PlanP) (items : List Int) : Prop :=
  (sortErr p items ≠ 0 ∧ e = .returned (.tuple #[.agg #[.slice none 0 0, .slice none 0 0, .slice none 0 0], .int .i64 (sortErr p items)])) ∨
  (sortErr p items = 0 ∧ ∃ v1 v2 v3 ss1 ss2, e = .returned (.tuple #[.agg #[Slc.val v1, Slc.val v2, Slc.val v3], .int .i64 0]) ∧ v1.n = n ∧ v2.n = n ∧
    RdL 1 slcC slcD w v1.ao v1.n ss1 ∧ RdFam w ss1 (famN (pass1 p items)) ∧ RdL 1 slcC slcD w v2.ao v2.n ss2 ∧ RdFam w ss2 (famN (pass2 p items)) ∧ Ints w v3.ao v3.n (natI (pass2 p items).flatten))

def R19a (l : List Seat) (items : List Int) (mi : Nat) (w0 : World) (u : Value) (wr : World) : Prop := ∃ i : Nat, i ≤ mi ∧ u = .int .i64 i ∧ (∀ j, j < i → feedAt l items j = 0) ∧ Below w0.heap.size w0 wr
def R19b (items : List Int) (x : Int) (i : Nat) (w0 : World) (u10 u11 : Value) (wr : World) : Prop := ∃ k : Nat, k ≤ i + 1 ∧ u11 = .int .i64 k ∧ u10 = .int .i64 (cntTo items k x : Int) ∧ Below w0.heap.size w0 wr
def R19c (p : PlanP) (items : List Int) (n rb : Nat) (w0 : World) (u : Value) (wr : World) : Prop :=
  ∃ (k : Nat) (v1 v2 v3 : Slc) (ss1 ss2 : List Slc), k ≤ n ∧ u = .int .i64 k ∧ wr.heap[rb]? = some (.cells #[v1.val, v2.val, v3.val] 49 (0, 0)) ∧
    RS (rb + 1) wr v1 v2 v3 ss1 ss2 (famN ((pass1 p items).take k)) (famN ((pass2 p items).take k)) (natI ((pass2 p items).take k).flatten) ∧ v1.n = k ∧ v2.n = k ∧ v3.n ≤ k * 4000000 ∧ rb < wr.heap.size ∧ Below rb w0 wr
def R19d (l : List Seat) (items : List Int) (k mi : Nat) (w0 : World) (u14 u15 : Value) (wr : World) : Prop :=
  ∃ (i : Nat) (ao : Option Addr) (N cap : Nat), i ≤ mi ∧ u15 = .int .i64 i ∧ u14 = .slice ao N cap ∧ N ≤ i ∧ OwnI w0.heap.size wr ao N cap (firstL l items k i) ∧ Below w0.heap.size w0 wr
def R19e (l : List Seat) (items : List Int) (k m : Nat) (w0 : World) (u14 u16 : Value) (wr : World) : Prop :=
  ∃ (s : Nat) (ao : Option Addr) (N cap : Nat), s ≤ m ∧ u16 = .int .i64 s ∧ u14 = .slice ao N cap ∧ N ≤ s * 2000 ∧ OwnI w0.heap.size wr ao N cap (twoL l items k s) ∧ Below w0.heap.size w0 wr
def R19f (xs : List Int) (items : List Int) (x : Int) (mi : Nat) (q : Prop) (N0 : Nat) (w0 : World) (u14 u17 : Value) (wr : World) : Prop :=
  ∃ (i : Nat) (ao : Option Addr) (N cap : Nat), i ≤ mi ∧ (¬ q → i = 0) ∧ u17 = .int .i64 i ∧ u14 = .slice ao N cap ∧ N ≤ N0 + i ∧ OwnI w0.heap.size wr ao N cap (xs ++ hitL items x i) ∧ Below w0.heap.size w0 wr

set_option maxRecDepth 1000000 in
set_option maxHeartbeats 8000000 in
theorem refSort_any (w : World) (a0 a1 a2 a3 ai : Option Addr) (n c0 m c1 n2 c2 n3 c3 mi ci : Nat) (p : PlanP) (items : List Int) (hc : Ints w a0 n p.caps) (h : Seats w a1 m p.seats) (hf : Ints w a2 n2 p.first) (hg : Ints w a3 n3 p.second) (hit : Ints w ai mi items)
    (hn : n ≤ 1048576) (hm : m ≤ 1048576) (hn2 : n2 ≤ 1048576) (hn3 : n3 ≤ 1048576) (hmi : mi ≤ 1048576) :
    Calls Tryz.prog 19 #[.agg #[.slice a0 n c0, .slice a1 m c1, .slice a2 n2 c2, .slice a3 n3 c3], .slice ai mi ci] w fun e w' => RefSortR w' e n p items ∧ Below w.heap.size w w' := by
  have Hl := Lib.hid h.len
  have Hcl := Lib.hid hc.len
  have Hil := Lib.hid hit.len
  obtain ⟨hpl, hre⟩ := boxes2 w #[.slice a0 n c0, .slice a1 m c1, .slice a2 n2 c2, .slice a3 n3 c3] #[.slice none 0 0, .slice none 0 0, .slice none 0 0] 29 49
  have hb0 : Below w.heap.size w ((w.alloc (.cells #[.slice a0 n c0, .slice a1 m c1, .slice a2 n2 c2, .slice a3 n3 c3] 29)).alloc (.cells #[.slice none 0 0, .slice none 0 0, .slice none 0 0] 49)) :=
    ((Below.refl _ _).alloc (Nat.le_refl _) _).alloc (by simp) _
  have hsz0 : ((w.alloc (.cells #[.slice a0 n c0, .slice a1 m c1, .slice a2 n2 c2, .slice a3 n3 c3] 29)).alloc (.cells #[.slice none 0 0, .slice none 0 0, .slice none 0 0] 49)).heap.size = w.heap.size + 1 + 1 := by simp
  have Hch := Lib.hid (refCheck_any ((w.alloc (.cells #[.slice a0 n c0, .slice a1 m c1, .slice a2 n2 c2, .slice a3 n3 c3] 29)).alloc (.cells #[.slice none 0 0, .slice none 0 0, .slice none 0 0] 49)) a0 a1 a2 a3 n c0 m c1 n2 c2 n3 c3 p (hc.below hb0) (h.below hb0) (hf.below hb0) (hg.below hb0) hn hm hn2 hn3)
  rw [hsz0] at Hch
  have Hbase : Hid (∀ W, Below (w.heap.size + 1 + 1) ((w.alloc (.cells #[.slice a0 n c0, .slice a1 m c1, .slice a2 n2 c2, .slice a3 n3 c3] 29)).alloc (.cells #[.slice none 0 0, .slice none 0 0, .slice none 0 0] 49)) W →
      Below w.heap.size w W ∧ w.heap.size + 1 + 1 ≤ W.heap.size ∧ W.heap[w.heap.size]? = some (.cells #[.slice a0 n c0, .slice a1 m c1, .slice a2 n2 c2, .slice a3 n3 c3] 29 (0, 0)) ∧ W.heap[w.heap.size + 1]? = some (.cells #[.slice none 0 0, .slice none 0 0, .slice none 0 0] 49 (0, 0)) ∧
      Ints W a0 n p.caps ∧ Seats W a1 m p.seats ∧ Ints W ai mi items) := fun W hW => by
    have h1 := hb0.trans (hW.mono (B' := w.heap.size) (by omega))
    have h2 := hW.size
    rw [hsz0] at h2
    exact ⟨h1, h2, (hW.block _ (by omega)).trans hpl, (hW.block _ (by omega)).trans hre, hc.below h1, h.below h1, hit.below h1⟩
  clear hc h hf hg hit hpl hre hb0 hsz0
  obtain ⟨hw0, hz0, hpl, hre, hc, h, hit⟩ := Hbase.out _ (Below.refl _ _)
  obtain ⟨p0, p1, p2, p3, _⟩ := four_at hpl
  clear hpl hre hc h hit
  go_enter Tryz.func19, Tryz.ntmps19
  by_cases hch : (checkP p).2 = 0
  · obtain ⟨hmc, hseats, hgood⟩ := check_ok hch
    have hmach := machine_caps hmc
    rw [Hcl.out] at hmach hgood
    rw [Hl.out] at hseats
    have Hgood := Lib.hid hgood
    have E1 : Hid (sortErr p items = if 2000 < mi then 5 else feedP p.seats items) := by show _ = _; unfold sortErr; rw [if_neg (by omega), Hil.out]
    have r1 : ((checkP p).2 != 0) = false := by rw [hch]; rfl
    clear hch hgood hmc
    generalize (checkP p).1 = i0 at *
    generalize (checkP p).2 = e0 at *
    by_cases hlen : 2000 < mi
    · have E : Hid (sortErr p items = 5) := by show _ = _; rw [E1.out, if_pos hlen]
      go_wp2_with (go_at_call 46; refine Hch.out.mono ?_; rintro e w1 ⟨rfl, hb1⟩; obtain ⟨hw1, hz1, hpl1, hre1, _⟩ := Hbase.out w1 hb1; obtain ⟨z0, z1, z2, z3, z4, z5⟩ := three_at hre1)
      exact bodyPost_ret (v := .tuple #[.agg #[.slice none 0 0, .slice none 0 0, .slice none 0 0], .int .i64 5]) (by simp [results, Tryz.results19, go_sem, z0, z1, z2]) rfl ⟨.inl ⟨by rw [E.out]; decide, by rw [E.out]⟩, below_set3 hw1 (by omega) _ _ _⟩
    · have E : Hid (sortErr p items = feedP p.seats items) := by show _ = _; rw [E1.out, if_neg hlen]
      clear E1
      have hmi2 : mi ≤ 2000 := by omega
      go_wp2_with (go_at_call 46; refine Hch.out.mono ?_; rintro e w1 ⟨rfl, hb1⟩)
      have Hb1 := Lib.hid hb1
      clear hb1 p0 p1 p2 p3 hw0 hz0 Hch
      have Hbase1 : Hid (∀ W, Below w1.heap.size w1 W → Below w.heap.size w W ∧ w.heap.size + 1 + 1 ≤ W.heap.size ∧ W.heap[w.heap.size]? = some (.cells #[.slice a0 n c0, .slice a1 m c1, .slice a2 n2 c2, .slice a3 n3 c3] 29 (0, 0)) ∧ W.heap[w.heap.size + 1]? = some (.cells #[.slice none 0 0, .slice none 0 0, .slice none 0 0] 49 (0, 0)) ∧
        Ints W a0 n p.caps ∧ Seats W a1 m p.seats ∧ Ints W ai mi items) := fun W hW => Hbase.out W (Hb1.out.trans (hW.mono (Hbase.out w1 Hb1.out).2.1))
      have Hfind : Hid (∀ W, Below w1.heap.size w1 W → ∀ x, Calls Tryz.prog 47 #[.agg #[.slice a0 n c0, .slice a1 m c1, .slice a2 n2 c2, .slice a3 n3 c3], .int .i64 x] W fun e w' => e = .returned (.int .i64 (findP p.seats x)) ∧ Below W.heap.size W w') := fun W hW x =>
        find_any W (.slice a0 n c0) (.slice a2 n2 c2) (.slice a3 n3 c3) a1 m c1 p.seats x (Hbase1.out W hW).2.2.2.2.2.1 (by omega) rfl rfl rfl a0 a2 a3 n c0 n2 c2 n3 c3 rfl rfl rfl
      go_loopw [8] (R19a p.seats items mi w1) (fun u8 _ => mi - (intOf u8).toNat)
      case atStart => exact ⟨0, Nat.zero_le _, rfl, fun j hj => absurd hj (by omega), Below.refl _ _⟩
      case round =>
        obtain ⟨i, hi, rfl, hall, hb⟩ := hrel
        have Hall := Lib.hid hall
        clear hall
        obtain ⟨hw, hz, hpl, hre, hc, h, hit⟩ := Hbase1.out wr hb
        by_cases hlt : i < mi
        · obtain ⟨gi, oi, rfl, hgi, ei⟩ := hit.at hlt
          obtain ⟨p0, p1, p2, p3, _⟩ := four_at hpl
          have hilen : i < items.length := by rw [Hil.out]; exact hlt
          have HfN : Hid (findO p.seats (items.getD i 0) = none → sortErr p items = 6) := fun hx => by
            rw [E.out]
            exact feed_hit hilen (refFeed_none hx) (by decide) Hall.out
          have Hf4 : Hid (∀ k, findO p.seats (items.getD i 0) = some k → Seat.vol (p.seats.getD k seatD) < (cntTo items (i + 1) (items.getD i 0) : Int) → sortErr p items = 4) := fun k hx hv => by
            rw [E.out]
            exact feed_hit hilen (by rw [refFeed_some hilen hx, if_pos hv]) (by decide) Hall.out
          have Hf0 : Hid (∀ k, findO p.seats (items.getD i 0) = some k → ¬ Seat.vol (p.seats.getD k seatD) < (cntTo items (i + 1) (items.getD i 0) : Int) → ∀ j, j < i + 1 → feedAt p.seats items j = 0) := fun k hx hv j hj => by
            by_cases e : j = i
            · subst e
              rw [refFeed_some hilen hx, if_neg hv]
            · exact Hall.out j (by omega)
          have hi0 : (0 : Int) ≤ (i : Int) := by omega
          have hi1 : (i : Int) < (mi : Int) := by omega
          have hA0 := after_cell p0
          have hA1 := after_cell p1
          have hA2 := after_cell p2
          have hA3 := after_cell p3
          have hA4 := after_cell ei
          generalize hx : items.getD i 0 = x at *
          have Hx := Lib.hid hx
          have Hfd : Hid (∀ d : After wr, Calls Tryz.prog 47 #[.agg #[.slice a0 n c0, .slice a1 m c1, .slice a2 n2 c2, .slice a3 n3 c3], .int .i64 x] d.val fun e w' => e = .returned (.int .i64 (findP p.seats x)) ∧ Below d.val.heap.size d.val w') := fun d => Hfind.out d.val (hb.trans (d.2.mono hb.size)) x
          have Hb := Lib.hid hb
          clear hx hc h hit hb hpl hre hilen hw
          cases hfo : findO p.seats x with
          | none =>
            have E2 := Lib.hid (HfN.out hfo)
            have hfp : findP p.seats x = -1 := by unfold findP; rw [hfo]
            rw [hfp] at Hfd
            clear hfo hfp
            go_wp2_with fail
            refine wp_region_after (by kernel_rfl) (by kernel_rfl) ?_
            repeat (go_big_quiet_step ((go_at_call 47; exact After.quiet _ (Hfd.out _))))
            refine wpQuiet_nil ?_
            intro _ hw'
            obtain ⟨dq, hw''⟩ := hw'
            subst hw''
            obtain ⟨hw, hz, hpl, hre, _⟩ := Hbase1.out dq.val (Hb.out.trans (dq.2.mono Hb.out.size))
            obtain ⟨z0, z1, z2, z3, z4, z5⟩ := three_at hre
            clear hA0 hA1 hA2 hA3 hA4
            go_wp2_with fail
            exact bodyPost_ret (v := .tuple #[.agg #[.slice none 0 0, .slice none 0 0, .slice none 0 0], .int .i64 6]) (by simp [results, Tryz.results19, go_sem, z0, z1, z2]) rfl ⟨.inl ⟨by rw [E2.out]; decide, by rw [E2.out]⟩, below_set3 hw (by omega) _ _ _⟩
          | some k =>
            have hfp : findP p.seats x = (k : Int) := by unfold findP; rw [hfo]
            have hkm : k < m := by have := (findO_some hfo).1; rw [Hl.out] at this; exact this
            rw [hfp] at Hfd
            have Hfo := Lib.hid hfo
            clear hfp hfo
            go_wp2_with fail
            refine wp_region_after (by kernel_rfl) (by kernel_rfl) ?_
            repeat (go_big_quiet_step ((go_at_call 47; exact After.quiet _ (Hfd.out _))))
            refine wpQuiet_nil ?_
            intro _ hw'
            obtain ⟨dq, hw''⟩ := hw'
            subst hw''
            have Hb2 := Lib.hid (Hb.out.trans (dq.2.mono Hb.out.size))
            clear hA0 hA1 hA2 hA3 hA4 p0 p1 p2 p3 ei Hfd
            generalize dq.val = w2 at *
            obtain ⟨wo, rfl⟩ : ∃ wo : World, wo = wr := ⟨_, rfl⟩
            go_wp2_with fail
            go_loopw [10, 11] (R19b items x i w2) (fun _ u11 _ => i + 1 - (intOf u11).toNat)
            case atStart => exact ⟨0, Nat.zero_le _, rfl, rfl, Below.refl _ _⟩
            case round =>
              obtain ⟨j, hj, rfl, rfl, hb3⟩ := hrel
              have Hb3 := Lib.hid (Hb2.out.trans (hb3.mono Hb2.out.size))
              obtain ⟨hw, hz, hpl, hre, hc, h, hit⟩ := Hbase1.out wr Hb3.out
              have hcl := cnt_le items j x
              rw [Hil.out] at hcl
              by_cases hji : j ≤ i
              · obtain ⟨gi2, oi2, ea2, _, ej⟩ := hit.at (show j < mi by omega)
                obtain ⟨gi3, oi3, ea3, _, ei⟩ := hit.at hlt
                cases ea2
                cases ea3
                rw [Hx.out] at ei
                have Hnx := Lib.hid (cnt_next items j (by rw [Hil.out]; omega) x)
                clear hc h hit hpl hre
                generalize items.getD j 0 = y at *
                have hj0 : (0 : Int) ≤ (j : Int) := by omega
                have hj1 : (j : Int) < (mi : Int) := by omega
                by_cases hy : y = x
                · have Hn2 : Hid ((cntTo items (j + 1) x : Int) = (cntTo items j x : Int) + 1) := by show _ = _; rw [Hnx.out, if_pos hy]; omega
                  have r3 : (y == x) = true := by simpa using hy
                  go_wp2_with fail
                  go_quiet (fail)
                  go_wp2_with fail
                  go_roundw
                  case rel => exact ⟨j + 1, by omega, by go_num, by rw [Hn2.out], below_drewN hb3 _⟩
                  case measure => simp [intOf] <;> omega
                · have Hn2 : Hid ((cntTo items (j + 1) x : Int) = (cntTo items j x : Int)) := by show _ = _; rw [Hnx.out, if_neg hy]; omega
                  have r3 : (y == x) = false := by simpa using hy
                  go_wp2_with fail
                  go_quiet (fail)
                  go_wp2_with fail
                  go_roundw
                  case rel => exact ⟨j + 1, by omega, by go_num, by rw [Hn2.out], below_drewN hb3 _⟩
                  case measure => simp [intOf] <;> omega
              · obtain rfl : j = i + 1 := by omega
                obtain ⟨p0, p1, p2, p3, _⟩ := four_at hpl
                obtain ⟨z0, z1, z2, z3, z4, z5⟩ := three_at hre
                obtain ⟨gs, os, rfl, hgs, s0, s1, s2, s3⟩ := Seats.at h hkm
                have hk0 : (0 : Int) ≤ (k : Int) := by omega
                have hk1 : (k : Int) < (m : Int) := by omega
                have hv4 := Hf4.out k Hfo.out
                have hv0 := Hf0.out k Hfo.out
                have Hv4 := Lib.hid hv4
                have Hv0 := Lib.hid hv0
                clear hv4 hv0 hc h hit hpl hre
                generalize Seat.vol (p.seats.getD k seatD) = vol at *
                generalize cntTo items (i + 1) x = cn at *
                by_cases hv : vol < (cn : Int)
                · have E2 := Lib.hid (Hv4.out hv)
                  go_wp2_with fail
                  exact bodyPost_ret (v := .tuple #[.agg #[.slice none 0 0, .slice none 0 0, .slice none 0 0], .int .i64 4]) (by simp [results, Tryz.results19, go_sem, z0, z1, z2]) rfl ⟨.inl ⟨by rw [E2.out]; decide, by rw [E2.out]⟩, below_set3 hw (by omega) _ _ _⟩
                · have E2 := Lib.hid (Hv0.out (by omega))
                  go_wp2_with fail
                  go_roundw
                  case rel => exact ⟨i + 1, hlt, by go_num, E2.out, Hb3.out⟩
                  case measure => simp [intOf] <;> omega
        · obtain rfl : i = mi := by omega
          have E2 : Hid (sortErr p items = 0) := by show _ = _; rw [E.out]; exact feed_none (fun j hj => Hall.out j (by rw [Hil.out] at hj; exact hj))
          have hhas := feed_has (l := p.seats) (items := items) (by rw [← E.out, E2.out])
          have Hhas := Lib.hid hhas
          have hp2 : pass2 p items = refTwo p items := pass2_eq (by rw [Hcl.out]; exact Hgood.out) hhas
          have Hp2 := Lib.hid hp2
          have hb3 := (Below.refl wr.heap.size wr).alloc (Nat.le_refl _) (.cells #[.slice none 0 0, .slice none 0 0, .slice none 0 0] 49)
          have hrb := heap_alloc_new wr (.cells #[.slice none 0 0, .slice none 0 0, .slice none 0 0] 49)
          have hsz3 : (wr.alloc (.cells #[.slice none 0 0, .slice none 0 0, .slice none 0 0] 49)).heap.size = wr.heap.size + 1 := by simp
          have Hsz3 := Lib.hid hsz3
          have hrs0 : R19c p items n wr.heap.size wr (.int .i64 0) (wr.alloc (.cells #[.slice none 0 0, .slice none 0 0, .slice none 0 0] 49)) :=
            ⟨0, slcD, slcD, slcD, [], [], Nat.zero_le _, rfl, hrb, RS.nil _ _, rfl, rfl, Nat.zero_le _, by rw [hsz3]; omega, hb3⟩
          have hrbz : w.heap.size + 1 + 1 ≤ wr.heap.size := hz
          have Hb3 := Lib.hid hb
          clear hhas hp2 hb3 hrb hsz3 hc h hit hpl hre hz hw hb
          have Hbase3 : Hid (∀ W, Below wr.heap.size wr W → Below w.heap.size w W ∧ w.heap.size + 1 + 1 ≤ W.heap.size ∧ W.heap[w.heap.size]? = some (.cells #[.slice a0 n c0, .slice a1 m c1, .slice a2 n2 c2, .slice a3 n3 c3] 29 (0, 0)) ∧ W.heap[w.heap.size + 1]? = some (.cells #[.slice none 0 0, .slice none 0 0, .slice none 0 0] 49 (0, 0)) ∧
            Ints W a0 n p.caps ∧ Seats W a1 m p.seats ∧ Ints W ai i items) := fun W hW => Hbase1.out W (Hb3.out.trans (hW.mono Hb3.out.size))
          have Hfind3 : Hid (∀ W, Below wr.heap.size wr W → ∀ x, Calls Tryz.prog 47 #[.agg #[.slice a0 n c0, .slice a1 m c1, .slice a2 n2 c2, .slice a3 n3 c3], .int .i64 x] W fun e w' => e = .returned (.int .i64 (findP p.seats x)) ∧ Below W.heap.size W w') := fun W hW x => Hfind.out W (Hb3.out.trans (hW.mono Hb3.out.size)) x
          clear Hbase1 Hfind Hb3
          obtain ⟨w3, rfl⟩ : ∃ w3 : World, w3 = wr := ⟨_, rfl⟩
          obtain ⟨iI, hiI, hy0, hy1, hy2⟩ := info_parts infoI
          obtain ⟨iS, hiS, hz0, hz1, hz2⟩ := info_parts (show (Tryz.prog.info? 23).map (fun i => (i.zero, i.size, i.bytes)) = some (some (.slice none 0 0), 1, 24) by kernel_rfl)
          go_wp2_with fail
          generalize hrb : w3.heap.size = rb at *
          go_loopw [13] (R19c p items n rb w3) (fun u13 _ => n - (intOf u13).toNat)
          case atStart => exact hrs0
          case round =>
            clear hrs0
            obtain ⟨k, ⟨x1, k1, y1⟩, ⟨x2, k2, y2⟩, ⟨x3, k3, y3⟩, ss1, ss2, hk, rfl, hrun, hrs, hv1, hv2, hv3, hrl, hb⟩ := hrel
            obtain rfl : k = k1 := hv1.symm
            obtain rfl : k = k2 := hv2.symm
            replace hrun : wr.heap[rb]? = some (.cells #[.slice x1 k y1, .slice x2 k y2, .slice x3 k3 y3] 49 (0, 0)) := hrun
            replace hv3 : k3 ≤ k * 4000000 := hv3
            obtain ⟨hw, hz, hpl, hre, hc, h, hit⟩ := Hbase3.out wr hb
            obtain ⟨p0, p1, p2, p3, _⟩ := four_at hpl
            by_cases hkn : k < n
            · clear p1 p2 p3 hpl hre hc h hit hw
              have hnil : R19d p.seats items k i wr (.slice none 0 0) (.int .i64 0) wr := ⟨0, none, 0, 0, Nat.zero_le _, rfl, rfl, Nat.le_refl _, OwnI.nil _ _ _, Below.refl _ _⟩
              have Hrs := Lib.hid hrs
              have Hrun := Lib.hid hrun
              have Hb := Lib.hid hb
              have Hbase4 : Hid (∀ W, Below wr.heap.size wr W → Below w.heap.size w W ∧ w.heap.size + 1 + 1 ≤ W.heap.size ∧ W.heap[w.heap.size]? = some (.cells #[.slice a0 n c0, .slice a1 m c1, .slice a2 n2 c2, .slice a3 n3 c3] 29 (0, 0)) ∧ W.heap[w.heap.size + 1]? = some (.cells #[.slice none 0 0, .slice none 0 0, .slice none 0 0] 49 (0, 0)) ∧
                Ints W a0 n p.caps ∧ Seats W a1 m p.seats ∧ Ints W ai i items) := fun W hW => Hbase3.out W (hb.trans (hW.mono (by omega)))
              have Hfind4 : Hid (∀ W, Below wr.heap.size wr W → ∀ x, Calls Tryz.prog 47 #[.agg #[.slice a0 n c0, .slice a1 m c1, .slice a2 n2 c2, .slice a3 n3 c3], .int .i64 x] W fun e w' => e = .returned (.int .i64 (findP p.seats x)) ∧ Below W.heap.size W w') := fun W hW x => Hfind3.out W (hb.trans (hW.mono (by omega))) x
              clear hrs hrun hb
              go_wp2_with fail
              obtain ⟨w4, rfl⟩ : ∃ w4 : World, w4 = wr := ⟨_, rfl⟩
              clear p0
              go_loopw [14, 15] (R19d p.seats items k i w4) (fun _ u15 _ => i - (intOf u15).toNat)
              case atStart => exact hnil
              case round =>
                clear hnil
                obtain ⟨j, ao, N, cap, hj, rfl, rfl, hNj, hown, hb5⟩ := hrel
                have hs5 := hb5.size
                by_cases hji : j < i
                · obtain ⟨hw, hz, hpl, hre, hc, h, hit⟩ := Hbase4.out wr hb5
                  obtain ⟨p0, p1, p2, p3, _⟩ := four_at hpl
                  obtain ⟨gi, oi, rfl, hgi, ei⟩ := hit.at hji
                  have hjl : j < items.length := by rw [Hil.out]; exact hji
                  obtain ⟨⟨a, ha, hfa⟩, _, hsf, _⟩ := sel_ok Hgood.out Hhas.out hjl
                  obtain ⟨q, hq⟩ : ∃ q, findO p.seats (items.getD j 0) = some q := by
                    cases hq : findO p.seats (items.getD j 0) with
                    | some q => exact ⟨q, rfl⟩
                    | none => exact absurd (Hhas.out j hjl) (by rw [findO_none hq]; decide)
                  obtain ⟨hq1, hq2, hq3⟩ := findO_some hq
                  rw [Hl.out] at hq1
                  have hsel : selF p.seats items j = a := by unfold selF firstN; rw [hfa]; simp
                  rw [hq3] at hfa
                  obtain ⟨gs, os, rfl, hgs, s0, s1, s2, s3⟩ := Seats.at h hq1
                  rw [hfa] at s2
                  have hfp : findP p.seats (items.getD j 0) = (q : Int) := by unfold findP; rw [hq]
                  have Hyes : Hid (a = k → firstL p.seats items k (j + 1) = firstL p.seats items k j ++ [(j : Int)]) := fun e => first_yes (by rw [hsel, e])
                  have Hno : Hid (a ≠ k → firstL p.seats items k (j + 1) = firstL p.seats items k j) := fun e => first_no (by rw [hsel]; exact e)
                  have hi0 : (0 : Int) ≤ (j : Int) := by omega
                  have hi1 : (j : Int) < (i : Int) := by omega
                  have hq0 : (0 : Int) ≤ (q : Int) := by omega
                  have hqm : (q : Int) < (m : Int) := by omega
                  have Hfd : Hid (∀ d : After wr, Calls Tryz.prog 47 #[.agg #[.slice a0 n c0, .slice (some ⟨gs, os, none⟩) m c1, .slice a2 n2 c2, .slice a3 n3 c3], .int .i64 (items.getD j 0)] d.val fun e w' => e = .returned (.int .i64 (q : Int)) ∧ Below d.val.heap.size d.val w') := fun d => by
                    have := Hfind4.out d.val (hb5.trans (d.2.mono hs5)) (items.getD j 0)
                    rw [hfp] at this
                    exact this
                  have hA0 := after_cell p0
                  have hA1 := after_cell p1
                  have hA2 := after_cell p2
                  have hA3 := after_cell p3
                  have hA4 := after_cell ei
                  have hA5 := after_cell s2
                  have Hown := Lib.hid hown
                  have Hb5 := Lib.hid hb5
                  clear hown hb5 hc h hit hpl hre hw s0 s1 s3 hq hq2 hq3 hfa hfp hsel hsf hjl
                  generalize items.getD j 0 = x at *
                  by_cases hak : a = k
                  · have hL := Lib.hid (Hyes.out hak)
                    have r3 : ((a : Int) == (k : Int)) = true := by rw [beq_iff_eq]; omega
                    subst hak
                    go_wp2_with fail
                    refine wp_region_after (by kernel_rfl) (by kernel_rfl) ?_
                    repeat (go_big_quiet_step ((go_at_call 47; exact After.quiet _ (Hfd.out _))))
                    refine wpQuiet_nil ?_
                    intro _ hw'
                    obtain ⟨dq, hw''⟩ := hw'
                    subst hw''
                    have hb6 := Hb5.out.trans (dq.2.mono hs5)
                    have hown6 := Hown.out.below dq.2
                    clear hA0 hA1 hA2 hA3 hA4 hA5 p0 p1 p2 p3 ei s2 Hfd
                    generalize dq.val = w6 at *
                    have hown7 := hown6.alloc (.cells #[.int .i64 (j : Int)] 3)
                    have hs6 := hb6.size
                    have hb7 := hb6.alloc hs6 (.cells #[.int .i64 (j : Int)] 3)
                    have Hown7 := Lib.hid hown7
                    have Hb7 := Lib.hid hb7
                    clear hown6 hown7 hb6 hb7
                    go_wp2_with (at_builtin; refine wpList_append_sl _ rfl (.tmp 97) (.tmp 99) 23 rfl 3 iI _ 1 8 Tryz.underlying23 hiI hy0 hy1 hy2 rfl rfl Hown7.out.sl ⟨w6.heap.size, 0, none⟩ 1 1 [.int .i64 (j : Int)] rfl rfl (cell_one_at _ _ _ _ rfl) (by intro u hu; simp at hu; subst hu; rfl) (by unfold maxLen; omega) (by omega) ?_)
                    intro ao2 cap2 w7 ha2
                    have hown8 := ownI_app (ys := [(j : Int)]) Hown7.out (by simp; omega) rfl rfl rfl (by first | exact ha2 | (simp at ha2; exact ha2) | simpa using ha2)
                    have hb8 := Hb7.out.grown ha2.grown (by simp; omega) Hown7.out.row
                    rw [← hL.out] at hown8
                    clear ha2
                    go_wp2_with fail
                    go_roundw
                    case rel => exact ⟨j + 1, ao2, N + 1, cap2, hji, by go_num, rfl, by omega, hown8, hb8⟩
                    case measure => simp [intOf] <;> omega
                  · have hL := Lib.hid (Hno.out hak)
                    have r3 : ((a : Int) == (k : Int)) = false := by rw [beq_eq_false_iff_ne]; omega
                    go_wp2_with fail
                    refine wp_region_after (by kernel_rfl) (by kernel_rfl) ?_
                    repeat (go_big_quiet_step ((go_at_call 47; exact After.quiet _ (Hfd.out _))))
                    refine wpQuiet_nil ?_
                    intro _ hw'
                    obtain ⟨dq, hw''⟩ := hw'
                    subst hw''
                    clear hA0 hA1 hA2 hA3 hA4 hA5 p0 p1 p2 p3 ei s2 Hfd
                    go_wp2_with fail
                    go_roundw
                    case rel => exact ⟨j + 1, ao, N, cap, hji, by go_num, rfl, by omega, by rw [hL.out]; exact Hown.out.below dq.2, Hb5.out.trans (dq.2.mono hs5)⟩
                    case measure => simp [intOf] <;> omega
                · obtain rfl : j = i := by omega
                  have hrun5 := (hb5.block rb hrl).trans Hrun.out
                  have hrs5 := Hrs.out.below hb5
                  obtain ⟨z0, z1, z2, _⟩ := three_at hrun5
                  have hrun6 : (wr.alloc (.cells #[.slice ao N cap] 23)).heap[rb]? = some (.cells #[.slice x1 k y1, .slice x2 k y2, .slice x3 k3 y3] 49 (0, 0)) := (Below.heap_alloc _ _ _ (by omega)).trans hrun5
                  have hrs6 := hrs5.alloc (.cells #[.slice ao N cap] 23)
                  have hown6 := (hown.mono (show rb + 1 ≤ w4.heap.size by omega)).alloc (.cells #[.slice ao N cap] 23)
                  have hr1 : ∀ j, j < (famN ((pass1 p items).take k)).length → ∀ g, rowAt ss1 j = some g → rowOf ao cap ≠ some g := fun j hj g hg hx => by
                    have := Hrs.out.g1.row_lt hj hg
                    have := hown.row g hx
                    omega
                  have hr3 : ∀ g, rowOf ao cap = some g → rowOf x3 y3 ≠ some g := fun g hg hx => by
                    have := Hrs.out.o.sl.row_lt g hx
                    have := hown.row g hg
                    omega
                  have Hpk := Lib.hid (pass1_at (p := p) (items := items) (k := k) (by rw [Hcl.out]; exact hkn))
                  rw [Hil.out] at Hpk
                  have hb6 : Below rb w3 (wr.alloc (.cells #[.slice ao N cap] 23)) := (Hb.out.trans (hb5.mono (by omega))).alloc (by omega) _
                  have Hrs6 := Lib.hid hrs6
                  have Hown6 := Lib.hid hown6
                  have Hrun6 := Lib.hid hrun6
                  have Hb6 := Lib.hid hb6
                  have Hr1 := Lib.hid hr1
                  have Hr3 := Lib.hid hr3
                  have hrw : rb < wr.heap.size := by omega
                  clear hrs5 hrs6 hown hown6 hrun5 hrun6 hb6 hr1 hr3 hb5
                  go_wp2_with (at_builtin; refine wpList_append_sl _ rfl (.tmp 102) (.tmp 104) 47 rfl 23 iS _ 1 24 Tryz.underlying47 hiS hz0 hz1 hz2 rfl rfl Hrs6.out.f1.sl ⟨wr.heap.size, 0, none⟩ 1 1 [.slice ao N cap] rfl rfl (cell_one_at _ _ _ _ rfl) (by intro u hu; simp at hu; subst hu; rfl) (by unfold maxLen; omega) (by omega) ?_)
                  intro ao7 cap7 w7 ha7
                  have hrs7 := Hrs6.out.first (s := ⟨ao, N, cap⟩) (by simp; omega) Hown6.out Hr1.out Hr3.out rfl (fun j hj => by simp [Slc.val]) ha7
                  have hrun7 : w7.heap[rb]? = some (.cells #[.slice x1 k y1, .slice x2 k y2, .slice x3 k3 y3] 49 (0, 0)) := (ha7.grown.block rb (by simp; omega) (fun e => by have := Hrs6.out.f1.row rb e.symm; omega)).trans Hrun6.out
                  have hb7 : Below rb w3 w7 := Hb6.out.grown ha7.grown (by simp; omega) (fun g hg => by have := Hrs6.out.f1.row g hg; omega)
                  obtain ⟨z0, z1, z2, z3, z4, z5⟩ := three_at hrun7
                  have hrs8 := hrs7.set1 (q := rb) (by omega) 0 (.slice ao7 (k + 1) cap7)
                  have hrun8 := set_block hrun7 0 (.slice ao7 (k + 1) cap7)
                  have hb8 := hb7.setCell (p := ⟨rb, 0, none⟩) (Nat.le_refl _) (.slice ao7 (k + 1) cap7)
                  rw [← Hpk.out] at hrs8
                  have hlt8 : rb < (w7.setCell ⟨rb, 0, none⟩ (.slice ao7 (k + 1) cap7)).heap.size := (Array.getElem?_eq_some_iff.1 hrun8).1
                  have Hrs8 := Lib.hid hrs8
                  have Hrun8 : Hid ((w7.setCell ⟨rb, 0, none⟩ (.slice ao7 (k + 1) cap7)).heap[rb]? = some (.cells #[.slice ao7 (k + 1) cap7, .slice x2 k y2, .slice x3 k3 y3] 49 (0, 0))) := hrun8
                  have Hb8 := Lib.hid hb8
                  clear ha7 hrs7 hrun7 hb7 hrs8 hrun8 hb8 Hrs6 Hown6 Hrun6 Hb6 Hr1 Hr3 Hrs Hrun Hb Hbase4 Hfind4 Hpk
                  go_wp2_with fail
                  clear z0 z1 z2 z3 z4 z5
                  generalize w7.setCell ⟨rb, 0, none⟩ (.slice ao7 (k + 1) cap7) = w8 at *
                  have hnil : R19e p.seats items k m w8 (.slice none 0 0) (.int .i64 0) w8 := ⟨0, none, 0, 0, Nat.zero_le _, rfl, rfl, Nat.zero_le _, by rw [two_zero]; exact OwnI.nil _ _ _, Below.refl _ _⟩
                  go_loopw [14, 16] (R19e p.seats items k m w8) (fun _ u16 _ => m - (intOf u16).toNat)
                  case atStart => exact hnil
                  case round =>
                    clear hnil
                    obtain ⟨s, ao, N, cap, hs, rfl, rfl, hNs, hown, hb9⟩ := hrel
                    have hs9 := hb9.size
                    obtain ⟨hw, hz, hpl, hre, hc, h, hit⟩ := Hbase3.out wr (Hb8.out.trans (hb9.mono (by omega)))
                    obtain ⟨p0, p1, p2, p3, _⟩ := four_at hpl
                    by_cases hsm : s < m
                    · have hsl : s < p.seats.length := by rw [Hl.out]; exact hsm
                      obtain ⟨_, b, _, hb0, _, hfb⟩ := Hgood.out.within (p.seats.getD s seatD) (by rw [List.getD_eq_getElem?_getD, List.getElem?_eq_getElem hsl]; exact List.getElem_mem hsl)
                      have hsn : secondN (p.seats.getD s seatD) = b := by unfold secondN; rw [hfb]; simp
                      have Hyes : Hid (b = k → twoL p.seats items k (s + 1) = twoL p.seats items k s ++ hitL items (Seat.stop (p.seats.getD s seatD)) j) := fun e => by rw [two_yes hsl (by rw [hsn, e]), Hil.out]
                      have Hno : Hid (b ≠ k → twoL p.seats items k (s + 1) = twoL p.seats items k s) := fun e => two_no hsl (by rw [hsn]; exact e)
                      have Hcell : Hid (∀ W, Below w8.heap.size w8 W → ∃ gs os, a1 = some ⟨gs, os, none⟩ ∧ W.cell? ⟨gs, os + s * 4, none⟩ = some (.int .i64 (Seat.stop (p.seats.getD s seatD))) ∧ W.cell? ⟨gs, os + s * 4 + 3, none⟩ = some (.int .i64 (b : Int))) := fun W hW => by
                        obtain ⟨_, _, _, _, _, h, _⟩ := Hbase3.out W (Hb8.out.trans (hW.mono (by omega)))
                        obtain ⟨gs, os, e, _, s0, _, _, s3⟩ := Seats.at h hsm
                        rw [hfb] at s3
                        exact ⟨gs, os, e, s0, s3⟩
                      clear hfb hsn hsl hc h hit hpl hre hw p0 p2 p3
                      generalize Seat.stop (p.seats.getD s seatD) = x at *
                      have hst : R19f (twoL p.seats items k s) items x j (b = k) N w8 (.slice ao N cap) (.int .i64 0) wr := ⟨0, ao, N, cap, Nat.zero_le _, fun _ => rfl, rfl, rfl, Nat.le_refl _, by rw [show hitL items x 0 = [] from rfl, List.append_nil]; exact hown, hb9⟩
                      have Hmono : Hid (∀ W, Below w8.heap.size w8 W → Below w.heap.size w W ∧ w.heap.size + 1 + 1 ≤ W.heap.size ∧ W.heap[w.heap.size]? = some (.cells #[.slice a0 n c0, .slice a1 m c1, .slice a2 n2 c2, .slice a3 n3 c3] 29 (0, 0)) ∧ W.heap[w.heap.size + 1]? = some (.cells #[.slice none 0 0, .slice none 0 0, .slice none 0 0] 49 (0, 0)) ∧
                        Ints W a0 n p.caps ∧ Seats W a1 m p.seats ∧ Ints W ai j items) := fun W hW => Hbase3.out W (Hb8.out.trans (hW.mono (by omega)))
                      clear hown hb9
                      go_wp2_with fail
                      clear p1
                      obtain ⟨w9, rfl⟩ : ∃ w9 : World, w9 = wr := ⟨_, rfl⟩
                      go_loopw [14, 17] (R19f (twoL p.seats items k s) items x j (b = k) N w8) (fun _ u17 _ => j - (intOf u17).toNat)
                      case atStart => exact hst
                      case round =>
                        clear hst
                        obtain ⟨q, ao2, N2, cap2, hq, hqn, rfl, rfl, hN2, hown, hb10⟩ := hrel
                        have hs10 := hb10.size
                        by_cases hqj : q < j
                        · obtain ⟨hw, hz, hpl, hre, hc, h, hit⟩ := Hmono.out wr hb10
                          obtain ⟨gs, os, rfl, s0, s3⟩ := Hcell.out wr hb10
                          obtain ⟨p0, p1, p2, p3, _⟩ := four_at hpl
                          obtain ⟨gi, oi, rfl, hgi, ei⟩ := hit.at hqj
                          have hs0 : (0 : Int) ≤ (s : Int) := by omega
                          have hs1 : (s : Int) < (m : Int) := by omega
                          have hq0 : (0 : Int) ≤ (q : Int) := by omega
                          have hq1 : (q : Int) < (j : Int) := by omega
                          have HhY : Hid (items.getD q 0 = x → hitL items x (q + 1) = hitL items x q ++ [(q : Int)]) := fun e => hit_yes e
                          have HhN : Hid (items.getD q 0 ≠ x → hitL items x (q + 1) = hitL items x q) := fun e => hit_no e
                          clear hc h hit hpl hre hw p0 p2 p3
                          generalize items.getD q 0 = y at *
                          by_cases hbk : b = k
                          · have r3 : ((b : Int) == (k : Int)) = true := by rw [beq_iff_eq]; omega
                            by_cases hyx : y = x
                            · have hL := Lib.hid (HhY.out hyx)
                              have r4 : (y == x) = true := by rw [beq_iff_eq]; exact hyx
                              have Hown7 : Hid (∀ t, OwnI w8.heap.size ((wr.drewN t).alloc (.cells #[.int .i64 (q : Int)] 3)) ao2 N2 cap2 (twoL p.seats items k s ++ hitL items x q)) := fun t => (hown.below (below_drewN (Below.refl _ _) t)).alloc _
                              have Hb11 : Hid (∀ t, Below w8.heap.size w8 ((wr.drewN t).alloc (.cells #[.int .i64 (q : Int)] 3))) := fun t => (below_drewN hb10 t).alloc (by simp; omega) _
                              have hN2' : N2 ≤ 2002000 := by omega
                              clear hown hb10
                              go_wp2_with fail
                              go_quiet (fail)
                              go_wp2_with (at_builtin; refine wpList_append_sl _ rfl (.tmp 141) (.tmp 143) 23 rfl 3 iI _ 1 8 Tryz.underlying23 hiI hy0 hy1 hy2 rfl rfl (Hown7.out _).sl ⟨wr.heap.size, 0, none⟩ 1 1 [.int .i64 (q : Int)] rfl rfl (cell_one_at _ _ _ _ rfl) (by intro u hu; simp at hu; subst hu; rfl) (by unfold maxLen; omega) (by omega) ?_)
                              intro ao8 cap8 w12 ha8
                              have hown8 := ownI_app (ys := [(q : Int)]) (Hown7.out _) (by simp; omega) rfl rfl rfl (by first | exact ha8 | (simp at ha8; exact ha8) | simpa using ha8)
                              have hb12 := (Hb11.out _).grown ha8.grown (by simp; omega) (Hown7.out 0).row
                              rw [List.append_assoc, ← hL.out] at hown8
                              clear ha8
                              go_wp2_with fail
                              go_roundw
                              case rel => exact ⟨q + 1, ao8, N2 + 1, cap8, hqj, fun hx => absurd hbk hx, by go_num, rfl, by omega, hown8, hb12⟩
                              case measure => simp [intOf] <;> omega
                            · have hL := Lib.hid (HhN.out hyx)
                              have r4 : (y == x) = false := by rw [beq_eq_false_iff_ne]; exact hyx
                              go_wp2_with fail
                              go_quiet (fail)
                              go_wp2_with fail
                              go_roundw
                              case rel => exact ⟨q + 1, ao2, N2, cap2, hqj, fun hx => absurd hbk hx, by go_num, rfl, by omega, by rw [hL.out]; exact hown.below (below_drewN (Below.refl _ _) _), below_drewN hb10 _⟩
                              case measure => simp [intOf] <;> omega
                          · have r3 : ((b : Int) == (k : Int)) = false := by rw [beq_eq_false_iff_ne]; omega
                            have hq00 := hqn hbk
                            have hL := Lib.hid (Hno.out hbk)
                            go_wp2_with fail
                            go_roundw
                            case rel => exact ⟨s + 1, ao2, N2, cap2, hsm, by go_num, rfl, by omega, by rw [hL.out]; rw [hq00, show hitL items x 0 = [] from rfl, List.append_nil] at hown; exact hown, hb10⟩
                            case measure => simp [intOf] <;> omega
                        · obtain rfl : q = j := by omega
                          have hL : Hid (twoL p.seats items k (s + 1) = twoL p.seats items k s ++ hitL items x q) := by
                            show _ = _
                            by_cases hbk : b = k
                            · exact Hyes.out hbk
                            · have e0 := hqn hbk
                              rw [Hno.out hbk, e0, show hitL items x 0 = [] from rfl, List.append_nil]
                          go_wp2_with fail
                          go_roundw
                          case rel => exact ⟨s + 1, ao2, N2, cap2, hsm, by go_num, rfl, by omega, by rw [hL.out]; exact hown, hb10⟩
                          case measure => simp [intOf] <;> omega
                    · obtain rfl : s = m := by omega
                      have hlen2 : N ≤ 2000000 := by omega
                      have hrun9 := (hb9.block rb hlt8).trans Hrun8.out
                      have hrs9 := (Hrs8.out.below hb9).swap
                      have hrun10 : (wr.alloc (.cells #[.slice ao N cap] 23)).heap[rb]? = some (.cells #[.slice ao7 (k + 1) cap7, .slice x2 k y2, .slice x3 k3 y3] 49 (0, 0)) := (Below.heap_alloc _ _ _ (by omega)).trans hrun9
                      have hrs10 := hrs9.alloc (.cells #[.slice ao N cap] 23)
                      have hown10 := (hown.mono (show rb + 1 ≤ w8.heap.size by omega)).alloc (.cells #[.slice ao N cap] 23)
                      have hr1 : ∀ j, j < (famN ((pass2 p items).take k)).length → ∀ g, rowAt ss2 j = some g → rowOf ao cap ≠ some g := fun j hj g hg hx => by
                        have := Hrs8.out.g2.row_lt hj hg
                        have := hown.row g hx
                        omega
                      have hr3 : ∀ g, rowOf ao cap = some g → rowOf x3 y3 ≠ some g := fun g hg hx => by
                        have := Hrs8.out.o.sl.row_lt g hx
                        have := hown.row g hg
                        omega
                      obtain ⟨hpk, hpf⟩ := pass2_at Hp2.out (k := k) (by rw [Hcl.out]; exact hkn)
                      rw [Hl.out] at hpk hpf
                      have Hpk := Lib.hid hpk
                      have Hpf := Lib.hid hpf
                      have hb10 : Below rb w3 (wr.alloc (.cells #[.slice ao N cap] 23)) := (Hb8.out.trans (hb9.mono (by omega))).alloc (by omega) _
                      obtain ⟨z0, z1, z2, _⟩ := three_at hrun9
                      have Hrs10 := Lib.hid hrs10
                      have Hown10 := Lib.hid hown10
                      have Hrun10 := Lib.hid hrun10
                      have Hb10 := Lib.hid hb10
                      have Hr1 := Lib.hid hr1
                      have Hr3 := Lib.hid hr3
                      have hrw : rb < wr.heap.size := by omega
                      have hlenT := hown.len
                      clear hrs9 hrs10 hown hown10 hrun9 hrun10 hb10 hr1 hr3 hb9 hpk hpf hc h hit hpl hre hw p0 p2 p3
                      go_wp2_with (at_builtin; refine wpList_append_sl _ rfl (.tmp 146) (.tmp 148) 47 rfl 23 iS _ 1 24 Tryz.underlying47 hiS hz0 hz1 hz2 rfl rfl Hrs10.out.f1.sl ⟨wr.heap.size, 0, none⟩ 1 1 [.slice ao N cap] rfl rfl (cell_one_at _ _ _ _ rfl) (by intro u hu; simp at hu; subst hu; rfl) (by unfold maxLen; omega) (by omega) ?_)
                      intro ao11 cap11 w11 ha11
                      have hrs11 := (Hrs10.out.first (s := ⟨ao, N, cap⟩) (by simp; omega) Hown10.out Hr1.out Hr3.out rfl (fun j hj => by simp [Slc.val]) ha11).swap
                      have hrun11 : w11.heap[rb]? = some (.cells #[.slice ao7 (k + 1) cap7, .slice x2 k y2, .slice x3 k3 y3] 49 (0, 0)) := (ha11.grown.block rb (by simp; omega) (fun e => by have := Hrs10.out.f1.row rb e.symm; omega)).trans Hrun10.out
                      have hb11 : Below rb w3 w11 := Hb10.out.grown ha11.grown (by simp; omega) (fun g hg => by have := Hrs10.out.f1.row g hg; omega)
                      obtain ⟨z0, z1, z2, z3, z4, z5⟩ := three_at hrun11
                      have hrs12 := hrs11.set1 (q := rb) (by omega) 1 (.slice ao11 (k + 1) cap11)
                      have hrun12 : (w11.setCell ⟨rb, 1, none⟩ (.slice ao11 (k + 1) cap11)).heap[rb]? = some (.cells #[.slice ao7 (k + 1) cap7, .slice ao11 (k + 1) cap11, .slice x3 k3 y3] 49 (0, 0)) := set_block hrun11 1 (.slice ao11 (k + 1) cap11)
                      have hb12 := hb11.setCell (p := ⟨rb, 1, none⟩) (Nat.le_refl _) (.slice ao11 (k + 1) cap11)
                      have hrd12 : Ints (w11.setCell ⟨rb, 1, none⟩ (.slice ao11 (k + 1) cap11)) ao N (twoL p.seats items k s) := hrs12.last2.ints
                      have hrsz : rb + 1 ≤ (w11.setCell ⟨rb, 1, none⟩ (.slice ao11 (k + 1) cap11)).heap.size := (Array.getElem?_eq_some_iff.1 hrun12).1
                      rw [← Hpk.out] at hrs12
                      have Hrs12 := Lib.hid hrs12
                      have Hrun12 := Lib.hid hrun12
                      have Hb12 := Lib.hid hb12
                      have Hrd12 := Lib.hid hrd12
                      obtain ⟨_, _, t2, _, _, _⟩ := three_at hrun12
                      clear ha11 hrs11 hrun11 hb11 hrs12 hrun12 hb12 hrd12 Hrs10 Hown10 Hrun10 Hb10 Hr1 Hr3
                      go_wp2_with (at_builtin; refine wpList_append_of _ rfl (.tmp 152) (.tmp 153) 23 23 rfl 3 iI _ 1 8 Tryz.underlying23 hiI hy0 hy1 hy2 rfl rfl Hrs12.out.o.sl (.slice ao N cap) rfl N ((twoL p.seats items k s).map (Value.int .i64)) (ints_src Tryz.underlying23 Hrd12.out cap) (by unfold maxLen; omega) (by omega) ?_)
                      intro ao13 cap13 w13 ha13
                      have hrs13 := Hrs12.out.order hrsz (xs := twoL p.seats items k s) rfl hlenT rfl (fun j hj => by simp) ha13
                      have hrun13 : w13.heap[rb]? = some (.cells #[.slice ao7 (k + 1) cap7, .slice ao11 (k + 1) cap11, .slice x3 k3 y3] 49 (0, 0)) := (ha13.grown.block rb (by omega) (fun e => by have := Hrs12.out.o.row rb e.symm; omega)).trans Hrun12.out
                      have hb13 : Below rb w3 w13 := Hb12.out.grown ha13.grown (by omega) (fun g hg => by have := Hrs12.out.o.row g hg; omega)
                      obtain ⟨z0, z1, z2, z3, z4, z5⟩ := three_at hrun13
                      have hrs14 := hrs13.set1 (q := rb) (by omega) 2 (.slice ao13 (k3 + N) cap13)
                      have hrun14 : (w13.setCell ⟨rb, 2, none⟩ (.slice ao13 (k3 + N) cap13)).heap[rb]? = some (.cells #[.slice ao7 (k + 1) cap7, .slice ao11 (k + 1) cap11, .slice ao13 (k3 + N) cap13] 49 (0, 0)) := set_block hrun13 2 (.slice ao13 (k3 + N) cap13)
                      have hb14 := hb13.setCell (p := ⟨rb, 2, none⟩) (Nat.le_refl _) (.slice ao13 (k3 + N) cap13)
                      rw [← Hpf.out] at hrs14
                      clear ha13 hrs13 hrun13 hb13 Hrs12 Hrun12 Hb12 Hrd12
                      go_wp2_with fail
                      go_roundw
                      case rel => exact ⟨k + 1, ⟨ao7, k + 1, cap7⟩, ⟨ao11, k + 1, cap11⟩, ⟨ao13, k3 + N, cap13⟩, _, _, hkn, by go_num, hrun14, hrs14, rfl, rfl, (show k3 + N ≤ (k + 1) * 4000000 by omega), (Array.getElem?_eq_some_iff.1 hrun14).1, hb14⟩
                      case measure => simp [intOf] <;> omega
            · obtain rfl : k = n := by omega
              obtain ⟨t0, t1, t2, t3, t4, t5⟩ := three_at hrun
              obtain ⟨z0, z1, z2, z3, z4, z5⟩ := three_at hre
              have hne : w.heap.size + 1 < rb + 1 := by omega
              have hrs2 := ((hrs.set1 hne 0 (.slice x1 k y1)).set1 hne 1 (.slice x2 k y2)).set1 hne 2 (.slice x3 k3 y3)
              obtain ⟨e1, e2⟩ := pass_take_all p items
              rw [Hcl.out] at e1 e2
              rw [e1, e2] at hrs2
              have hfin := set_block (set_block (set_block hre 0 (.slice x1 k y1)) 1 (.slice x2 k y2)) 2 (.slice x3 k3 y3)
              obtain ⟨f0, f1, f2, _, _, _⟩ := three_at hfin
              clear hc h hit hpl hrs hb
              go_wp2_with fail
              exact bodyPost_ret (v := .tuple #[.agg #[.slice x1 k y1, .slice x2 k y2, .slice x3 k3 y3], .int .i64 0]) (by simp [results, Tryz.results19, go_sem, f0, f1, f2]) rfl
                ⟨.inr ⟨E2.out, ⟨x1, k, y1⟩, ⟨x2, k, y2⟩, ⟨x3, k3, y3⟩, ss1, ss2, rfl, rfl, rfl, hrs2.f1.rd, hrs2.g1.rd, hrs2.f2.rd, hrs2.g2.rd, hrs2.o.ints⟩, below_set3 hw (by omega) _ _ _⟩
  · have E : Hid (sortErr p items = (checkP p).2) := by show _ = _; unfold sortErr; rw [if_pos hch]
    have E0 : Hid (sortErr p items ≠ 0) := by show _ ≠ _; rw [E.out]; exact hch
    have r1 : ((checkP p).2 != 0) = true := by rw [bne_iff_ne]; exact hch
    clear hch
    generalize (checkP p).1 = i0 at *
    generalize (checkP p).2 = e0 at *
    go_wp2_with (go_at_call 46; refine Hch.out.mono ?_; rintro e w1 ⟨rfl, hb1⟩; obtain ⟨hw1, hz1, hpl1, hre1, _⟩ := Hbase.out w1 hb1; obtain ⟨z0, z1, z2, z3, z4, z5⟩ := three_at hre1)
    exact bodyPost_ret (v := .tuple #[.agg #[.slice none 0 0, .slice none 0 0, .slice none 0 0], .int .i64 e0]) (by simp [results, Tryz.results19, go_sem, z0, z1, z2]) rfl ⟨.inl ⟨E0.out, by rw [E.out]⟩, below_set3 hw1 (by omega) _ _ _⟩
end Go.Proofs.YtpfinkdpaomliaaGreat
