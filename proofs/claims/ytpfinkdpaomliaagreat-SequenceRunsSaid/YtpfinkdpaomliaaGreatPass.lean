/-
  A pass of 'Sort': the stackers that it fills, and the order in which they are fed again. Printed by wip/gen_pass.py.
-/
import Derived.Test.YtpfinkdpaomliaaGreatFam
import Derived.Deep.DeepCutAuto
import Derived.Deep.RegionWith
namespace Go.Proofs.YtpfinkdpaomliaaGreat
open Go.RowKit Go.Maps

/-- What a pass hands back: the stackers, and all of them in one list behind. -/
def PassR (B : Nat) (w : World) (e : Ending) (n : Nat) (xs : List (List Nat)) : Prop := ∃ b ss bo N cap s, e = .returned (.tuple #[.slice (some ⟨b, 0, none⟩) n n, .slice bo N cap]) ∧ Stk B w b n ss (famN xs) ∧ OwnI s w bo N cap (natI xs.flatten) ∧
  B ≤ s ∧ b < s ∧ ∀ k, k < n → ∀ g, rowOf (ss.getD k slcD).ao (ss.getD k slcD).cap = some g → g < s
theorem pass_row_len (n : Nat) (sel : Nat → Nat) (fed : List Nat) (s : Nat) (hs : s < n) : ((famN (passP n sel fed)).getD s []).length ≤ fed.length := by
  rw [famN_at _ _ (by rw [pass_len]; exact hs), natI_len, pass_at _ _ _ _ hs]
  exact List.length_filter_le _ _
def Cut49 (s : Nat) (w : World) (u : Value) (wx : World) : Prop := u = .int .i64 (s : Int) ∧ Below w.heap.size w wx
def R49 (n mf : Nat) (sel : Nat → Nat) (fed : List Nat) (w : World) (u19 : Value) (wr : World) : Prop :=
  ∃ (i : Nat) (ss : List Slc), i ≤ mf ∧ u19 = .int .i64 i ∧ Stk w.heap.size wr w.heap.size n ss (famN (passP n sel (fed.take i))) ∧ Below w.heap.size w wr


set_option maxRecDepth 1000000 in
set_option maxHeartbeats 1000000 in
theorem sel51_any (w : World) (a b c d : Int) :
    Calls Tryz.prog 51 #[.agg #[.int .i64 a, .int .i64 b, .int .i64 c, .int .i64 d]] w fun e w' => e = .returned (.int .i64 c) ∧ Below w.heap.size w w' := by
  go_enter Tryz.func51, Tryz.ntmps51
  go_wp2_with fail
  go_ret
  exact ⟨rfl, (Below.refl _ _).alloc (Nat.le_refl _) _⟩

set_option maxRecDepth 1000000 in
set_option maxHeartbeats 4000000 in
theorem pass51_any (w : World) (bp bs bi bm kq n mf cf mi ci : Nat) (a0 : Option Addr) (c0 : Nat) (ai af : Option Addr) (l : List Seat) (items : List Int) (fed : List Nat)
    (hp0 : w.cell? ⟨bp, 0, none⟩ = some (.slice a0 n c0)) (hbs : w.cell? ⟨bs, 0, none⟩ = some (.map (some bm))) (hbi : w.cell? ⟨bi, 0, none⟩ = some (.slice ai mi ci)) (lp : bp < w.heap.size) (ls : bs < w.heap.size) (li : bi < w.heap.size)
    (hmap : MapI Tryz.prog 3 w bm kq (seatG l)) (hit : Ints w ai mi items) (hwf : WfI items) (hfed : Ints w af mf (natI fed)) (hn1 : 1 ≤ n) (hn2 : n ≤ 64) (hmf : mf ≤ 2000) (hmi : mi ≤ 1048576)
    (hall : ∀ f ∈ fed, f < mi ∧ hasB l (items.getD f 0) = true ∧ ∃ s : Nat, s < n ∧ Seat.first (seatFor l (items.getD f 0)) = (s : Int)) (hsel : ∀ f ∈ fed, selF l items f < n) :
    Calls Tryz.prog 49 #[.slice af mf cf, .func (.func 51) #[] #[], .pointer (some ⟨bp, 0, none⟩), .pointer (some ⟨bs, 0, none⟩), .pointer (some ⟨bi, 0, none⟩)] w fun e w' =>
      PassR w.heap.size w' e n (passP n (selF l items) fed) ∧ Below w.heap.size w w' := by
  obtain ⟨i0, hi0, hz0, hz1, hz2⟩ := info_parts infoI
  obtain ⟨j0, hj0, hy0, hy1, hy2⟩ := info_parts (show (Tryz.prog.info? 23).map (fun i => (i.zero, i.size, i.bytes)) = some (some (.slice none 0 0), 1, 24) by kernel_rfl)
  have hmk : ∀ w : World, (Instr.makeSlice 47 (.int .i64 (n : Int)) (.int .i64 (n : Int))).run Tryz.prog w = .ok (.slice (some ⟨w.heap.size, 0, none⟩) n n) (w.alloc (.cells (madeCells #[.slice none 0 0] n) 23)) := fun w => by
    have hr := run_make (P := Tryz.prog) w 47 23 j0 _ Tryz.underlying47 hj0 hy0 .i64 .i64 (n : Int) (n : Int) (by omega) (by omega) (by rw [hy2]; omega) (by omega)
    rw [hy1] at hr
    simpa [Value.cells] using hr
  have Hfl : Hid (fed.length = mf) := by show _ = _; have := hfed.len; rw [natI_len] at this; exact this
  have Hil := Lib.hid hit.len
  have Hall := Lib.hid hall
  have Hsel := Lib.hid hsel
  have Hwf := Lib.hid hwf
  have hb0 : Below w.heap.size w (w.alloc (.cells (madeCells #[.slice none 0 0] n) 23)) := (Below.refl _ _).alloc (Nat.le_refl _) _
  have hst0 : Stk w.heap.size (w.alloc (.cells (madeCells #[.slice none 0 0] n) 23)) w.heap.size n (List.replicate n slcD) (famN (passP n (selF l items) (fed.take 0))) := by
    rw [List.take_zero, pass_nil]
    exact stk_made w n (by unfold maxLen; omega)
  clear hall hsel hwf
  go_enter Tryz.func49, Tryz.ntmps49
  go_wp2_with fail
  go_loopw [19] (R49 n mf (selF l items) fed w) (fun u19 _ => mf - (intOf u19).toNat)
  case atStart => exact ⟨0, _, Nat.zero_le _, rfl, hst0, hb0⟩
  case round =>
    clear hst0 hb0 hmk
    obtain ⟨i, ss, hi, rfl, hst, hb⟩ := hrel
    have hsz := hb.size
    by_cases hlt : i < mf
    · obtain ⟨g, off, rfl, hg, d0⟩ := (hfed.below hb).at hlt
      rw [natI_at] at d0
      have hil : i < fed.length := by rw [Hfl.out]; exact hlt
      have hmem : fed.getD i 0 ∈ fed := by rw [List.getD_eq_getElem?_getD, List.getElem?_eq_getElem hil]; exact List.getElem_mem hil
      obtain ⟨hf1, hf2, s, hs, hf3⟩ := Hall.out _ hmem
      have hf4 := Hsel.out _ hmem
      have hs2 : selF l items (fed.getD i 0) = s := by unfold selF firstN; rw [hf3]; simp
      have hnext := pass_next n (selF l items) (fed.take i) (fed.getD i 0) hf4
      rw [hs2] at hnext
      have htk : fed.take (i + 1) = fed.take i ++ [fed.getD i 0] := take_snoc' fed 0 i hil
      have Hnext : Hid (famN (passP n (selF l items) (fed.take (i + 1))) = (famN (passP n (selF l items) (fed.take i))).set s ((famN (passP n (selF l items) (fed.take i))).getD s [] ++ [((fed.getD i 0 : Nat) : Int)])) := by
        show _ = _
        rw [htk, hnext, famN_set, famN_at _ _ (by rw [pass_len]; exact hs)]
        unfold natI
        rw [List.map_append]
        rfl
      have hrl := pass_row_len n (selF l items) (fed.take i) s hs
      have htl : (fed.take i).length ≤ 2000 := by rw [List.length_take]; omega
      have hrl2 := Nat.le_trans hrl htl
      clear hnext htk hs2 hf4 hmem hil hrl htl
      generalize famN (passP n (selF l items) (fed.take i)) = xss at *
      generalize fed.getD i 0 = f at *
      obtain ⟨g2, o2, rfl, hg2, d1⟩ := (hit.below hb).at hf1
      have q0 : wr.cell? ⟨bs, 0, none⟩ = some (.map (some bm)) := (hb.cell (p := ⟨bs, 0, none⟩) ls).trans hbs
      have q1 : wr.cell? ⟨bi, 0, none⟩ = some (.slice (some ⟨g2, o2, none⟩) mi ci) := (hb.cell (p := ⟨bi, 0, none⟩) li).trans hbi
      have hw := Hwf.out f (by rw [Hil.out]; exact hf1)
      generalize items.getD f 0 = x at *
      have hlk := (hmap.below hb).look Tryz.underlying3 Tryz.underlying107 (zeroS _) hw
      rw [seatG_look hf2] at hlk
      simp only [Option.getD_some] at hlk
      unfold seatV at hlk
      rw [hf3] at hlk
      have hlkd := (((hmap.below hb).drewN 1).look Tryz.underlying3 Tryz.underlying107 (zeroS _) hw)
      rw [seatG_look hf2] at hlkd
      simp only [Option.getD_some] at hlkd
      unfold seatV at hlkd
      rw [hf3] at hlkd
      clear hf3 hf2 hw
      generalize Seat.stop (seatFor l x) = v0 at *
      generalize Seat.vol (seatFor l x) = v1 at *
      generalize Seat.second (seatFor l x) = v2 at *
      have hjf0 : (0 : Int) ≤ (f : Int) := by omega
      have hjf1 : (f : Int) < (mi : Int) := by omega
      have Hst := Lib.hid hst
      have Hb := Lib.hid hb
      have hlke : (Instr.lookup 107 (.map (some bm)) (.int .i64 x) false).run Tryz.prog wr.drew = .ok (.agg #[.int .i64 v0, .int .i64 v1, .int .i64 (s : Int), .int .i64 v2]) wr.drew := hlkd
      clear hlkd hst hb
      go_upto_region 5 with fail
      go_cut [12] (Cut49 s wr)
      case first =>
        go_region_with (go_at_call 51; refine (sel51_any _ _ _ _ _).mono ?_; rintro e w2 ⟨rfl, hb2⟩)
        all_goals
          go_wp2_with fail
          go_meet
          first | exact ⟨rfl, hb2⟩ | exact ⟨rfl, ⟨hb2.os, hb2.tape, hb2.output, hb2.size, hb2.block⟩⟩
      case rest =>
        obtain ⟨rfl, hb2⟩ := hcut
        have hst := Hst.out.below hb2
        have hb := Hb.out.trans (hb2.mono hsz)
        have hsz2 := hb.size
        have hkx : s < xss.length := by rw [hst.len]; exact hs
        have hok := hst.fam.at_ s hkx
        have hcx := hst.sl.sl.cell (i := s) (by omega)
        have hcv : cellsF 1 slcC slcD ss s = (ss.getD s slcD).val := by
          unfold cellsF
          rw [Nat.div_one, Nat.mod_one]
          rfl
        rw [hcv] at hcx
        have hln := hok.len
        obtain ⟨sa, sn, sc, hsl⟩ : ∃ sa sn sc, ss.getD s slcD = ⟨sa, sn, sc⟩ := ⟨_, _, _, rfl⟩
        rw [hsl] at hcx hok hln
        replace hok : OwnI w.heap.size wc sa sn sc (xss.getD s []) := hok
        have Hsl := Lib.hid hsl
        have hnb : sn ≤ 2000 := by have : (xss.getD s []).length = sn := hln; omega
        replace hcx : wc.cell? ⟨w.heap.size, s, none⟩ = some (.slice sa sn sc) := hcx
        have hfr := hst.sl.sl.frozen (by omega) s
        have hst1 := hst.alloc (.cells #[.int .i64 (f : Int)] 3)
        have hb1 := hb.alloc hsz2 (.cells #[.int .i64 (f : Int)] 3)
        have hok1 := (hok.sl.alloc (.cells #[.int .i64 (f : Int)] 3))
        have Hst1 := Lib.hid hst1
        have Hb1 := Lib.hid hb1
        have Hok1 := Lib.hid hok1
        clear hst hb hst1 hb1 hok1 hok hsl hcv hln
        have hs0 : (0 : Int) ≤ (s : Int) := by omega
        have hs1 : (s : Int) < (n : Int) := by omega
        go_wp2_with (at_builtin; refine wpList_append_sl _ rfl (.tmp 36) (.tmp 38) 23 rfl 3 i0 _ 1 8 Tryz.underlying23 hi0 hz0 hz1 hz2 rfl rfl Hok1.out ⟨wc.heap.size, 0, none⟩ 1 1 [.int .i64 (f : Int)] rfl rfl (cell_one_at _ _ _ _ rfl) (by intro u hu; simp at hu; subst hu; rfl) (by unfold maxLen; omega) (by omega) ?_)
        intro ao2 cap2 w3 ha
        have hgx : xss.getD s [] = xss[s]'hkx := by simp [hkx]
        obtain ⟨hst3, ⟨u0, hu0⟩, hfr3, hbe⟩ := stk_app Hst1.out (by simp; omega) hs (f : Int) (ao' := ao2) (n' := sn + 1) (cap' := cap2) (w1 := w3) (by rw [Hsl.out]) (fun j hj => by rw [Hsl.out] at hj ⊢) (by rw [Hsl.out]; simp only [hgx]; exact ha)
        have hb3 := hbe w.heap.size w (Nat.le_refl _) Hb1.out
        clear ha hbe
        go_wp2_with fail
        refine ⟨⟨i + 1, ss.set s ⟨ao2, sn + 1, cap2⟩, hlt, by go_num, by rw [Hnext.out]; exact hst3, hb3⟩, ?_⟩
        show mf - (i + 1) < mf - i
        omega
    · obtain rfl : i = mf := by omega
      have hi2 : i ≤ 2000 := hmf
      have Et : Hid (fed.take i = fed) := List.take_of_length_le (by rw [Hfl.out]; exact Nat.le_refl _)
      rw [Et.out] at hst
      have hN : (joinP (famN (passP n (selF l items) fed))).length ≤ 1048576 := by
        rw [join_famN, natI_len]
        have := pass_flat_len n (selF l items) fed
        rw [Hfl.out] at this
        have h2 : n * i ≤ 64 * 2000 := Nat.mul_le_mul hn2 hi2
        omega
      have hco := concat_any wr (some ⟨w.heap.size, 0, none⟩) n n ss _ hst.sl.rd hst.fam.rd (by omega) hN
      rw [join_famN] at hco
      generalize (natI (passP n (selF l items) fed).flatten).length = N at *
      have Hco := Lib.hid hco
      clear hco hN
      go_wp2_with (go_at_call 50; refine Hco.out.mono ?_; rintro e w2 ⟨bo, cap2, rfl, hown, hb2⟩)
      go_ret2
      have hrow := hst.sl.row w.heap.size (rowOf_at _ _ hn1)
      exact ⟨⟨w.heap.size, ss, bo, N, cap2, wr.heap.size, rfl, hst.below hb2, hown, hsz, hst.sl.sl.row_lt _ (rowOf_at _ _ hn1), fun k hk g hg => (hst.fam.at_ k (by rw [hst.len]; exact hk)).sl.row_lt g hg⟩, hb.trans (hb2.mono hsz)⟩


set_option maxRecDepth 1000000 in
set_option maxHeartbeats 1000000 in
theorem sel52_any (w : World) (a b c d : Int) :
    Calls Tryz.prog 52 #[.agg #[.int .i64 a, .int .i64 b, .int .i64 c, .int .i64 d]] w fun e w' => e = .returned (.int .i64 d) ∧ Below w.heap.size w w' := by
  go_enter Tryz.func52, Tryz.ntmps52
  go_wp2_with fail
  go_ret
  exact ⟨rfl, (Below.refl _ _).alloc (Nat.le_refl _) _⟩

set_option maxRecDepth 1000000 in
set_option maxHeartbeats 4000000 in
theorem pass52_any (w : World) (bp bs bi bm kq n mf cf mi ci : Nat) (a0 : Option Addr) (c0 : Nat) (ai af : Option Addr) (l : List Seat) (items : List Int) (fed : List Nat)
    (hp0 : w.cell? ⟨bp, 0, none⟩ = some (.slice a0 n c0)) (hbs : w.cell? ⟨bs, 0, none⟩ = some (.map (some bm))) (hbi : w.cell? ⟨bi, 0, none⟩ = some (.slice ai mi ci)) (lp : bp < w.heap.size) (ls : bs < w.heap.size) (li : bi < w.heap.size)
    (hmap : MapI Tryz.prog 3 w bm kq (seatG l)) (hit : Ints w ai mi items) (hwf : WfI items) (hfed : Ints w af mf (natI fed)) (hn1 : 1 ≤ n) (hn2 : n ≤ 64) (hmf : mf ≤ 2000) (hmi : mi ≤ 1048576)
    (hall : ∀ f ∈ fed, f < mi ∧ hasB l (items.getD f 0) = true ∧ ∃ s : Nat, s < n ∧ Seat.second (seatFor l (items.getD f 0)) = (s : Int)) (hsel : ∀ f ∈ fed, selS l items f < n) :
    Calls Tryz.prog 49 #[.slice af mf cf, .func (.func 52) #[] #[], .pointer (some ⟨bp, 0, none⟩), .pointer (some ⟨bs, 0, none⟩), .pointer (some ⟨bi, 0, none⟩)] w fun e w' =>
      PassR w.heap.size w' e n (passP n (selS l items) fed) ∧ Below w.heap.size w w' := by
  obtain ⟨i0, hi0, hz0, hz1, hz2⟩ := info_parts infoI
  obtain ⟨j0, hj0, hy0, hy1, hy2⟩ := info_parts (show (Tryz.prog.info? 23).map (fun i => (i.zero, i.size, i.bytes)) = some (some (.slice none 0 0), 1, 24) by kernel_rfl)
  have hmk : ∀ w : World, (Instr.makeSlice 47 (.int .i64 (n : Int)) (.int .i64 (n : Int))).run Tryz.prog w = .ok (.slice (some ⟨w.heap.size, 0, none⟩) n n) (w.alloc (.cells (madeCells #[.slice none 0 0] n) 23)) := fun w => by
    have hr := run_make (P := Tryz.prog) w 47 23 j0 _ Tryz.underlying47 hj0 hy0 .i64 .i64 (n : Int) (n : Int) (by omega) (by omega) (by rw [hy2]; omega) (by omega)
    rw [hy1] at hr
    simpa [Value.cells] using hr
  have Hfl : Hid (fed.length = mf) := by show _ = _; have := hfed.len; rw [natI_len] at this; exact this
  have Hil := Lib.hid hit.len
  have Hall := Lib.hid hall
  have Hsel := Lib.hid hsel
  have Hwf := Lib.hid hwf
  have hb0 : Below w.heap.size w (w.alloc (.cells (madeCells #[.slice none 0 0] n) 23)) := (Below.refl _ _).alloc (Nat.le_refl _) _
  have hst0 : Stk w.heap.size (w.alloc (.cells (madeCells #[.slice none 0 0] n) 23)) w.heap.size n (List.replicate n slcD) (famN (passP n (selS l items) (fed.take 0))) := by
    rw [List.take_zero, pass_nil]
    exact stk_made w n (by unfold maxLen; omega)
  clear hall hsel hwf
  go_enter Tryz.func49, Tryz.ntmps49
  go_wp2_with fail
  go_loopw [19] (R49 n mf (selS l items) fed w) (fun u19 _ => mf - (intOf u19).toNat)
  case atStart => exact ⟨0, _, Nat.zero_le _, rfl, hst0, hb0⟩
  case round =>
    clear hst0 hb0 hmk
    obtain ⟨i, ss, hi, rfl, hst, hb⟩ := hrel
    have hsz := hb.size
    by_cases hlt : i < mf
    · obtain ⟨g, off, rfl, hg, d0⟩ := (hfed.below hb).at hlt
      rw [natI_at] at d0
      have hil : i < fed.length := by rw [Hfl.out]; exact hlt
      have hmem : fed.getD i 0 ∈ fed := by rw [List.getD_eq_getElem?_getD, List.getElem?_eq_getElem hil]; exact List.getElem_mem hil
      obtain ⟨hf1, hf2, s, hs, hf3⟩ := Hall.out _ hmem
      have hf4 := Hsel.out _ hmem
      have hs2 : selS l items (fed.getD i 0) = s := by unfold selS secondN; rw [hf3]; simp
      have hnext := pass_next n (selS l items) (fed.take i) (fed.getD i 0) hf4
      rw [hs2] at hnext
      have htk : fed.take (i + 1) = fed.take i ++ [fed.getD i 0] := take_snoc' fed 0 i hil
      have Hnext : Hid (famN (passP n (selS l items) (fed.take (i + 1))) = (famN (passP n (selS l items) (fed.take i))).set s ((famN (passP n (selS l items) (fed.take i))).getD s [] ++ [((fed.getD i 0 : Nat) : Int)])) := by
        show _ = _
        rw [htk, hnext, famN_set, famN_at _ _ (by rw [pass_len]; exact hs)]
        unfold natI
        rw [List.map_append]
        rfl
      have hrl := pass_row_len n (selS l items) (fed.take i) s hs
      have htl : (fed.take i).length ≤ 2000 := by rw [List.length_take]; omega
      have hrl2 := Nat.le_trans hrl htl
      clear hnext htk hs2 hf4 hmem hil hrl htl
      generalize famN (passP n (selS l items) (fed.take i)) = xss at *
      generalize fed.getD i 0 = f at *
      obtain ⟨g2, o2, rfl, hg2, d1⟩ := (hit.below hb).at hf1
      have q0 : wr.cell? ⟨bs, 0, none⟩ = some (.map (some bm)) := (hb.cell (p := ⟨bs, 0, none⟩) ls).trans hbs
      have q1 : wr.cell? ⟨bi, 0, none⟩ = some (.slice (some ⟨g2, o2, none⟩) mi ci) := (hb.cell (p := ⟨bi, 0, none⟩) li).trans hbi
      have hw := Hwf.out f (by rw [Hil.out]; exact hf1)
      generalize items.getD f 0 = x at *
      have hlk := (hmap.below hb).look Tryz.underlying3 Tryz.underlying107 (zeroS _) hw
      rw [seatG_look hf2] at hlk
      simp only [Option.getD_some] at hlk
      unfold seatV at hlk
      rw [hf3] at hlk
      have hlkd := (((hmap.below hb).drewN 1).look Tryz.underlying3 Tryz.underlying107 (zeroS _) hw)
      rw [seatG_look hf2] at hlkd
      simp only [Option.getD_some] at hlkd
      unfold seatV at hlkd
      rw [hf3] at hlkd
      clear hf3 hf2 hw
      generalize Seat.stop (seatFor l x) = v0 at *
      generalize Seat.vol (seatFor l x) = v1 at *
      generalize Seat.first (seatFor l x) = v2 at *
      have hjf0 : (0 : Int) ≤ (f : Int) := by omega
      have hjf1 : (f : Int) < (mi : Int) := by omega
      have Hst := Lib.hid hst
      have Hb := Lib.hid hb
      have hlke : (Instr.lookup 107 (.map (some bm)) (.int .i64 x) false).run Tryz.prog wr.drew = .ok (.agg #[.int .i64 v0, .int .i64 v1, .int .i64 v2, .int .i64 (s : Int)]) wr.drew := hlkd
      clear hlkd hst hb
      go_upto_region 5 with fail
      go_cut [12] (Cut49 s wr)
      case first =>
        go_region_with (go_at_call 52; refine (sel52_any _ _ _ _ _).mono ?_; rintro e w2 ⟨rfl, hb2⟩)
        all_goals
          go_wp2_with fail
          go_meet
          first | exact ⟨rfl, hb2⟩ | exact ⟨rfl, ⟨hb2.os, hb2.tape, hb2.output, hb2.size, hb2.block⟩⟩
      case rest =>
        obtain ⟨rfl, hb2⟩ := hcut
        have hst := Hst.out.below hb2
        have hb := Hb.out.trans (hb2.mono hsz)
        have hsz2 := hb.size
        have hkx : s < xss.length := by rw [hst.len]; exact hs
        have hok := hst.fam.at_ s hkx
        have hcx := hst.sl.sl.cell (i := s) (by omega)
        have hcv : cellsF 1 slcC slcD ss s = (ss.getD s slcD).val := by
          unfold cellsF
          rw [Nat.div_one, Nat.mod_one]
          rfl
        rw [hcv] at hcx
        have hln := hok.len
        obtain ⟨sa, sn, sc, hsl⟩ : ∃ sa sn sc, ss.getD s slcD = ⟨sa, sn, sc⟩ := ⟨_, _, _, rfl⟩
        rw [hsl] at hcx hok hln
        replace hok : OwnI w.heap.size wc sa sn sc (xss.getD s []) := hok
        have Hsl := Lib.hid hsl
        have hnb : sn ≤ 2000 := by have : (xss.getD s []).length = sn := hln; omega
        replace hcx : wc.cell? ⟨w.heap.size, s, none⟩ = some (.slice sa sn sc) := hcx
        have hfr := hst.sl.sl.frozen (by omega) s
        have hst1 := hst.alloc (.cells #[.int .i64 (f : Int)] 3)
        have hb1 := hb.alloc hsz2 (.cells #[.int .i64 (f : Int)] 3)
        have hok1 := (hok.sl.alloc (.cells #[.int .i64 (f : Int)] 3))
        have Hst1 := Lib.hid hst1
        have Hb1 := Lib.hid hb1
        have Hok1 := Lib.hid hok1
        clear hst hb hst1 hb1 hok1 hok hsl hcv hln
        have hs0 : (0 : Int) ≤ (s : Int) := by omega
        have hs1 : (s : Int) < (n : Int) := by omega
        go_wp2_with (at_builtin; refine wpList_append_sl _ rfl (.tmp 36) (.tmp 38) 23 rfl 3 i0 _ 1 8 Tryz.underlying23 hi0 hz0 hz1 hz2 rfl rfl Hok1.out ⟨wc.heap.size, 0, none⟩ 1 1 [.int .i64 (f : Int)] rfl rfl (cell_one_at _ _ _ _ rfl) (by intro u hu; simp at hu; subst hu; rfl) (by unfold maxLen; omega) (by omega) ?_)
        intro ao2 cap2 w3 ha
        have hgx : xss.getD s [] = xss[s]'hkx := by simp [hkx]
        obtain ⟨hst3, ⟨u0, hu0⟩, hfr3, hbe⟩ := stk_app Hst1.out (by simp; omega) hs (f : Int) (ao' := ao2) (n' := sn + 1) (cap' := cap2) (w1 := w3) (by rw [Hsl.out]) (fun j hj => by rw [Hsl.out] at hj ⊢) (by rw [Hsl.out]; simp only [hgx]; exact ha)
        have hb3 := hbe w.heap.size w (Nat.le_refl _) Hb1.out
        clear ha hbe
        go_wp2_with fail
        refine ⟨⟨i + 1, ss.set s ⟨ao2, sn + 1, cap2⟩, hlt, by go_num, by rw [Hnext.out]; exact hst3, hb3⟩, ?_⟩
        show mf - (i + 1) < mf - i
        omega
    · obtain rfl : i = mf := by omega
      have hi2 : i ≤ 2000 := hmf
      have Et : Hid (fed.take i = fed) := List.take_of_length_le (by rw [Hfl.out]; exact Nat.le_refl _)
      rw [Et.out] at hst
      have hN : (joinP (famN (passP n (selS l items) fed))).length ≤ 1048576 := by
        rw [join_famN, natI_len]
        have := pass_flat_len n (selS l items) fed
        rw [Hfl.out] at this
        have h2 : n * i ≤ 64 * 2000 := Nat.mul_le_mul hn2 hi2
        omega
      have hco := concat_any wr (some ⟨w.heap.size, 0, none⟩) n n ss _ hst.sl.rd hst.fam.rd (by omega) hN
      rw [join_famN] at hco
      generalize (natI (passP n (selS l items) fed).flatten).length = N at *
      have Hco := Lib.hid hco
      clear hco hN
      go_wp2_with (go_at_call 50; refine Hco.out.mono ?_; rintro e w2 ⟨bo, cap2, rfl, hown, hb2⟩)
      go_ret2
      have hrow := hst.sl.row w.heap.size (rowOf_at _ _ hn1)
      exact ⟨⟨w.heap.size, ss, bo, N, cap2, wr.heap.size, rfl, hst.below hb2, hown, hsz, hst.sl.sl.row_lt _ (rowOf_at _ _ hn1), fun k hk g hg => (hst.fam.at_ k (by rw [hst.len]; exact hk)).sl.row_lt g hg⟩, hb.trans (hb2.mono hsz)⟩

end Go.Proofs.YtpfinkdpaomliaaGreat
