import Derived.Test.YtpfinkdpaomliaaGreatProg
import Derived.Test.YtpfinkdpaomliaaGreatFlatLib
import Derived.Deep.QuietTactic
import Derived.BigQuiet
import Derived.StillTailTactics
import Derived.Lib.Hide
import Derived.Outline
namespace Go.Proofs.YtpfinkdpaomliaaGreat
open Go.RowKit

theorem mark_any (k i : Int) (w : World) (hk : 0 ≤ k) (hk2 : k ≤ 1000000000000) (hi : 0 ≤ i) (hi2 : i ≤ 1000000000000) :
    Calls Tryz.prog 34 #[.int .i64 k, .int .i64 i] w fun e w' => e = .returned (.int .i64 (1000003 * (k + 7) + i)) ∧ w' = w := by
  go_enter Tryz.func34, Tryz.ntmps34
  go_wp2_with fail
  go_ret
  exact ⟨rfl, rfl⟩

theorem mark_same (k i : Int) (w : World) (hk : 0 ≤ k) (hk2 : k ≤ 1000000000000) (hi : 0 ≤ i) (hi2 : i ≤ 1000000000000) :
    Calls Tryz.prog 34 #[.int .i64 k, .int .i64 i] w fun e w' => e = .returned (.int .i64 (1000003 * (k + 7) + i)) ∧ w = w' :=
  (mark_any k i w hk hk2 hi hi2).mono fun _ _ h => ⟨h.1, h.2.symm⟩

theorem infoInt : (Tryz.prog.info? 3).map (fun i => (i.zero, i.size, i.bytes)) = some (some (.int .i64 0), 1, 8) := by kernel_rfl
theorem infoInts : (Tryz.prog.info? 23).map (fun i => (i.zero, i.size, i.bytes)) = some (some (.slice none 0 0), 1, 24) := by kernel_rfl

def Mi (k i : Nat) : Value := .int .i64 (1000003 * ((k : Int) + 7) + (i : Int))

/-- Phase 1: all cells are marked. -/
def R1 (B : Nat → Prop) (n cap : Nat) (ao : Option Addr) (A : Nat → Option Addr) (L C : Nat → Nat) (F : Nat → Nat → Value) (w : World) (u3 : Value) (wr : World) : Prop :=
  ∃ k : Nat, k ≤ n ∧ u3 = .int .i64 k ∧ St 3 23 (F1 Mi F k 0) B n ao cap A L C w wr
def R1i (B : Nat → Prop) (n cap : Nat) (ao : Option Addr) (A : Nat → Option Addr) (L C : Nat → Nat) (F : Nat → Nat → Value) (w : World) (k : Nat) (u4 : Value) (wr : World) : Prop :=
  ∃ i : Nat, i ≤ L k ∧ u4 = .int .i64 i ∧ St 3 23 (F1 Mi F k i) B n ao cap A L C w wr

def R2 (B : Nat → Prop) (n cap : Nat) (ao : Option Addr) (A : Nat → Option Addr) (L C : Nat → Nat) (hg : Nat) (w : World) (u6 : Value) (wr : World) : Prop :=
  ∃ k : Nat, k ≤ n ∧ u6 = .int .i64 k ∧ St 3 23 Mi B n ao cap A L C w wr ∧ ∃ A' C', Gs 3 23 Mi n A L C (fun j => L j + 64) hg k (fun _ => .slice none 0 0) A' C' B wr
def R2i (B : Nat → Prop) (n cap : Nat) (ao : Option Addr) (A : Nat → Option Addr) (L C : Nat → Nat) (hg : Nat) (w : World) (k : Nat) (A' : Nat → Option Addr) (C' : Nat → Nat) (u7 u8 : Value) (wr : World) : Prop :=
  ∃ (i : Nat) (Ag : Option Addr) (Cg : Nat), i ≤ 64 ∧ u7 = .slice Ag (L k + i) Cg ∧ u8 = .int .i64 i ∧ St 3 23 Mi B n ao cap A L C w wr ∧ Gs 3 23 Mi n A L C (fun j => L j + 64) hg k (fun _ => .slice none 0 0) A' C' B wr ∧
    Twin 3 Mi n k A C Ag (L k + i) Cg hg A' C' wr ∧ ∀ g, rowOf Ag Cg = some g → B g

def R3 (B : Nat → Prop) (n cap : Nat) (ao : Option Addr) (A : Nat → Option Addr) (L C : Nat → Nat) (hg : Nat) (w : World) (A' : Nat → Option Addr) (C' : Nat → Nat) (u9 : Value) (wr : World) : Prop :=
  ∃ k : Nat, k ≤ n ∧ u9 = .int .i64 k ∧ St 3 23 Mi B n ao cap A L C w wr ∧ Gs 3 23 Mi n A L C (fun j => L j + 64) hg n (fun _ => .slice none 0 0) A' C' B wr
def R3i (B : Nat → Prop) (n cap : Nat) (ao : Option Addr) (A : Nat → Option Addr) (L C : Nat → Nat) (hg : Nat) (w : World) (A' : Nat → Option Addr) (C' : Nat → Nat) (k : Nat) (u10 : Value) (wr : World) : Prop :=
  ∃ i : Nat, i ≤ L k + 64 ∧ u10 = .int .i64 i ∧ St 3 23 Mi B n ao cap A L C w wr ∧ Gs 3 23 Mi n A L C (fun j => L j + 64) hg n (fun _ => .slice none 0 0) A' C' B wr

def R4 (B : Nat → Prop) (n cap : Nat) (ao : Option Addr) (A : Nat → Option Addr) (L C : Nat → Nat) (hg : Nat) (w : World) (G : Nat → Value) (u11 : Value) (wr : World) : Prop :=
  ∃ k : Nat, k ≤ n ∧ u11 = .int .i64 k ∧ St 3 23 Mi B n ao cap A L C w wr ∧ ∃ A' C', Gs 3 23 Mi n A L C L hg k G A' C' B wr
def R4i (B : Nat → Prop) (n cap : Nat) (ao : Option Addr) (A : Nat → Option Addr) (L C : Nat → Nat) (hg : Nat) (w : World) (G : Nat → Value) (k hm : Nat) (A' : Nat → Option Addr) (C' : Nat → Nat) (u13 : Value) (wr : World) : Prop :=
  ∃ i : Nat, i ≤ 64 ∧ u13 = .int .i64 i ∧ St 3 23 Mi B n ao cap A L C w wr ∧ Gs 3 23 Mi n A L C L hg k G A' C' B wr ∧ ∃ fm, Fresh 3 n ao cap A C A' C' hg k B hm fm wr
def R5 (B : Nat → Prop) (n cap : Nat) (ao : Option Addr) (A : Nat → Option Addr) (L C : Nat → Nat) (hg : Nat) (w : World) (G : Nat → Value) (A' : Nat → Option Addr) (C' : Nat → Nat) (u14 : Value) (wr : World) : Prop :=
  ∃ k : Nat, k ≤ n ∧ u14 = .int .i64 k ∧ St 3 23 Mi B n ao cap A L C w wr ∧ Gs 3 23 Mi n A L C L hg n G A' C' B wr
def R5i (B : Nat → Prop) (n cap : Nat) (ao : Option Addr) (A : Nat → Option Addr) (L C : Nat → Nat) (hg : Nat) (w : World) (G : Nat → Value) (A' : Nat → Option Addr) (C' : Nat → Nat) (k : Nat) (u15 : Value) (wr : World) : Prop :=
  ∃ i : Nat, i ≤ L k ∧ u15 = .int .i64 i ∧ St 3 23 Mi B n ao cap A L C w wr ∧ Gs 3 23 Mi n A L C L hg n G A' C' B wr

set_option maxRecDepth 100000 in
set_option maxHeartbeats 2000000 in
theorem flatInts_any (B : Nat → Prop) (n cap : Nat) (ao : Option Addr) (A : Nat → Option Addr) (L C : Nat → Nat) (F : Nat → Nat → Value) (w : World) (hn : n ≤ 1048576) (hL : ∀ k, k < n → L k ≤ 1048576)
    (hst : St 3 23 F B n ao cap A L C w w) :
    Calls Tryz.prog 70 #[.slice ao n cap] w fun e w' => e = .returned (.bool true) ∧ Only B w w' := by
  obtain ⟨i0, hi0, hz0, hz1, hz2⟩ := info_parts infoInt
  have hmk := fun (c : Nat) (h : 24 * c ≤ 281474976710656) (h' : c ≤ 9223372036854775807) => run_make_row' (P := Tryz.prog) 47 23 (.slice none 0 0) 24 Tryz.underlying47 infoInts rfl .i64 .i64 c h h'
  have hmkn := hmk n (by omega) (by omega)
  clear hmk
  have hmk64 : ∀ w, (Instr.makeSlice 23 (.int .i64 64) (.int .i64 64)).run Tryz.prog w = .ok (.slice (some ⟨w.heap.size, 0, none⟩) 64 64) (w.alloc (.cells (madeCells #[.int .i64 0] 64) 3)) :=
    run_make_row' (P := Tryz.prog) 23 3 (.int .i64 0) 8 Tryz.underlying23 infoInt rfl .i64 .i64 64 (by omega) (by omega)
  go_enter Tryz.func70, Tryz.ntmps70
  go_wp2_with fail
  go_loopw [3] (R1 B n cap ao A L C F w) (fun u3 _ => n - (intOf u3).toNat)
  case atStart => exact ⟨0, Nat.zero_le _, rfl, by rw [F1_zero]; exact hst⟩
  case round =>
    obtain ⟨k, hk, rfl, hs⟩ := hrel
    obtain ⟨wo, rfl⟩ : ∃ wo : World, wo = wr := ⟨_, rfl⟩
    by_cases hlt : k < n
    · have hcap : 0 < cap := by have := hs.ls.le; omega
      obtain ⟨g0, rfl, _, _⟩ := hs.ls.some_ hcap
      have hcell : wo.cell? ⟨g0, k, none⟩ = some (.slice (A k) (L k) (C k)) := hs.ls.cell (i := k) (by omega)
      have hLk := hL k hlt
      go_wp2_with fail
      go_loopw [4] (R1i B n cap (some ⟨g0, 0, none⟩) A L C F w k) (fun u4 _ => L k - (intOf u4).toNat)
      case atStart => exact ⟨0, Nat.zero_le _, rfl, hs⟩
      case round =>
        obtain ⟨i, hi, rfl, hsi⟩ := hrel
        clear hcell
        have hcell : wr.cell? ⟨g0, k, none⟩ = some (.slice (A k) (L k) (C k)) := hsi.ls.cell (i := k) (by omega)
        by_cases hil : i < L k
        · have hsk := hsi.fam k hlt
          have hck : 0 < C k := by have := hsk.le; omega
          obtain ⟨gk, hA, _, _⟩ := hsk.some_ hck
          have hnext := hsi.put hlt hA hck (i := i) (Mi k i)
          rw [F1_put] at hnext
          rw [hA] at hcell hsk
          have hcell2 := hsk.cell (i := i) (by omega)
          have hfro := hsk.frozen hck i
          clear hA
          go_wp2_with fail
          refine wp_region_still_tail 9 (by kernel_rfl) (by kernel_rfl) ?_
          simp only [List.take_succ_cons, List.take_zero, List.drop_succ_cons, List.drop_zero]
          repeat still_step
          still_call (mark_any k i _ (by omega) (by omega) (by omega) (by omega))
          repeat still_step
          refine wpStill_nil ?_
          go_wp2_with fail
          go_roundw
          case rel => exact ⟨i + 1, hil, by go_num, hnext.drew⟩
          case measure => simp [intOf]; omega
        · obtain rfl : i = L k := by omega
          go_wp2_with fail
          go_roundw
          case rel => exact ⟨k + 1, hlt, by go_num, hsi.congr fun j m _ hm => F1_next Mi F L k j m hm⟩
          case measure => simp [intOf]; omega
    · obtain rfl : n = k := by omega
      have hs2 : St 3 23 Mi B n ao cap A L C w wo := hs.congr fun j m hj _ => by simp [F1, hj]
      clear hs
      have hgs0 : Gs 3 23 Mi n A L C (fun j => L j + 64) wo.heap.size 0 (fun _ => .slice none 0 0) (fun _ => none) (fun _ => 0) B _ := Gs.start hs2 (by unfold maxLen; omega)
      have hs3 := hs2.alloc (.cells (madeCells #[.slice none 0 0] n) 23)
      have hgl : ∀ g, rowOf ao cap = some g → g ≠ wo.heap.size := fun g h => by have := hs2.ls.row_lt g h; omega
      go_wp2_with fail
      generalize wo.alloc (.cells (madeCells #[.slice none 0 0] n) 23) = w3 at *
      generalize wo.heap.size = hg at *
      clear hmkn hs2
      have hgl' : rowOf ao cap ≠ some hg := fun h => hgl hg h rfl
      go_loopw [6] (R2 B n cap ao A L C hg w) (fun u6 _ => n - (intOf u6).toNat)
      case atStart => exact ⟨0, Nat.zero_le _, rfl, hs3, _, _, hgs0⟩
      case round =>
        clear hs3 hgs0
        obtain ⟨k, hk, rfl, hs, A', C', hgs⟩ := hrel
        obtain ⟨wo, rfl⟩ : ∃ wo : World, wo = wr := ⟨_, rfl⟩
        by_cases hlt : k < n
        · have hcap : 0 < cap := by have := hs.ls.le; omega
          obtain ⟨g0, rfl, _, _⟩ := hs.ls.some_ hcap
          have hcell : wo.cell? ⟨g0, k, none⟩ = some (.slice (A k) (L k) (C k)) := hs.ls.cell (i := k) (by omega)
          have hLk := hL k hlt
          go_wp2_with fail
          go_loopw [7, 8] (R2i B n cap (some ⟨g0, 0, none⟩) A L C hg w k A' C') (fun _ u8 _ => 64 - (intOf u8).toNat)
          case atStart => exact ⟨0, A k, C k, Nat.zero_le _, rfl, rfl, hs, hgs, Twin.start hs hgs hlt, hs.own k hlt⟩
          case round =>
            obtain ⟨i, Ag, Cg, hi, rfl, rfl, hsi, hgi, ht, hBg⟩ := hrel
            clear hcell
            have hcell : wr.cell? ⟨g0, k, none⟩ = some (.slice (A k) (L k) (C k)) := hsi.ls.cell (i := k) (by omega)
            by_cases hil : i < 64
            · go_wp2_with (first | (go_at_call 34; refine (mark_same _ _ _ (by omega) (by omega) (by omega) (by omega)).mono ?_; rintro e w' ⟨rfl, rfl⟩) | (at_builtin; refine wpList_append_sl _ rfl (.tmp 57) (.tmp 67) 23 rfl 3 i0 (.int .i64 0) 1 8 Tryz.underlying23 hi0 hz0 hz1 hz2 rfl rfl (ht.sl.alloc _) ⟨_, 0, none⟩ 1 1 [Mi k (L k + i)] rfl rfl (cell_one_new _ _ _) (by simp [Mi]; rfl) (by unfold maxLen; omega) (by omega) ?_))
              intro ao' cap' w1 hap
              obtain ⟨hs1, hg1, ht1, hB1⟩ := twin_next hsi hgi hlt _ ht (by omega) hBg hap
              clear hap hcell hsi hgi ht hBg
              go_wp2_with fail
              go_roundw
              case rel => exact ⟨i + 1, ao', cap', by omega, rfl, by go_num, hs1, hg1, ht1, hB1⟩
              case measure => simp [intOf]; omega
            · obtain rfl : i = 64 := by omega
              have hgc : wr.cell? ⟨hg, k, none⟩ = some (.slice none 0 0) := (hgi.gs.cell (i := k) (by omega)).trans (by simp)
              have hgf := hgi.gs.frozen (by omega) k
              go_wp2_with fail
              go_roundw
              case rel => exact ⟨k + 1, hlt, by go_num, hsi.putG hgi (by omega) hgl' k _, _, _, hgi.put hsi.ne hlt ht.sl ht.far⟩
              case measure => simp [intOf]; omega
        · obtain rfl : n = k := by omega
          go_wp2_with fail
          go_loopw [9] (R3 B n cap ao A L C hg w A' C') (fun u9 _ => n - (intOf u9).toNat)
          case atStart => exact ⟨0, Nat.zero_le _, rfl, hs, hgs⟩
          case round =>
            clear hs hgs
            obtain ⟨k, hk, rfl, hs, hgs⟩ := hrel
            obtain ⟨wo, rfl⟩ : ∃ wo : World, wo = wr := ⟨_, rfl⟩
            by_cases hlt : k < n
            · have hcap : 0 < cap := by have := hs.ls.le; omega
              obtain ⟨g0, rfl, _, _⟩ := hs.ls.some_ hcap
              have hLk := hL k hlt
              go_wp2_with fail
              go_loopw [10] (R3i B n cap (some ⟨g0, 0, none⟩) A L C hg w A' C' k) (fun u10 _ => L k + 64 - (intOf u10).toNat)
              case atStart => exact ⟨0, Nat.zero_le _, rfl, hs, hgs⟩
              case round =>
                clear hs hgs
                obtain ⟨i, hi, rfl, hsi, hgi⟩ := hrel
                have hcell : wr.cell? ⟨g0, k, none⟩ = some (.slice (A k) (L k) (C k)) := hsi.ls.cell (i := k) (by omega)
                have hgc : wr.cell? ⟨hg, k, none⟩ = some (.slice (A' k) (L k + 64) (C' k)) := (hgi.gs.cell (i := k) (by omega)).trans (by simp [hlt])
                by_cases hil : i < L k + 64
                · have hsg := hgi.rows k hlt
                  obtain ⟨g1, hA1, _, _⟩ := hsg.some_ (by have := hsg.le; omega)
                  rw [hA1] at hgc hsg
                  have hc1 : wr.cell? ⟨g1, i, none⟩ = some (.int .i64 (1000003 * ((k : Int) + 7) + (i : Int))) := hsg.cell (i := i) (by omega)
                  clear hA1
                  by_cases hil2 : i < L k
                  · have hsk := hsi.fam k hlt
                    obtain ⟨g2, hA2, _, _⟩ := hsk.some_ (by have := hsk.le; omega)
                    rw [hA2] at hcell hsk
                    have hc2 : wr.cell? ⟨g2, i, none⟩ = some (.int .i64 (1000003 * ((k : Int) + 7) + (i : Int))) := hsk.cell (i := i) (by omega)
                    clear hA2
                    go_wp2_with fail
                    go_quiet ((go_at_call 34; exact Calls.quiet_of_same (mark_any _ _ _ (by omega) (by omega) (by omega) (by omega))))
                    go_wp2_with fail
                    go_roundw
                    case rel => exact ⟨i + 1, by omega, by go_num, hsi.drewN _, hgi.drewN _⟩
                    case measure => simp [intOf]; omega
                  · have hd : decide ((i : Int) < (L k : Int)) = false := by simp; omega
                    go_wp2_with fail
                    go_quiet ((go_at_call 34; exact Calls.quiet_of_same (mark_any _ _ _ (by omega) (by omega) (by omega) (by omega))))
                    go_wp2_with fail
                    go_roundw
                    case rel => exact ⟨i + 1, by omega, by go_num, hsi.drewN _, hgi.drewN _⟩
                    case measure => simp [intOf]; omega
                · go_wp2_with fail
                  go_roundw
                  case rel => exact ⟨k + 1, hlt, by go_num, hsi, hgi⟩
                  case measure => simp [intOf]; omega
            · obtain rfl : n = k := by omega
              have hgs4 : Gs 3 23 Mi n A L C L hg 0 (fun j => .slice (A' j) (L j + 64) (C' j)) (fun _ => none) (fun _ => 0) B wo := hgs.again
              obtain ⟨G, hG⟩ : ∃ G : Nat → Value, G = fun j => .slice (A' j) (L j + 64) (C' j) := ⟨_, rfl⟩
              rw [← hG] at hgs4
              clear hG hgs
              go_wp2_with fail
              go_loopw [11] (R4 B n cap ao A L C hg w G) (fun u11 _ => n - (intOf u11).toNat)
              case atStart => exact ⟨0, Nat.zero_le _, rfl, hs, _, _, hgs4⟩
              case round =>
                clear hs hgs4
                obtain ⟨k, hk, rfl, hs, A2, C2, hgs⟩ := hrel
                obtain ⟨wo, rfl⟩ : ∃ wo : World, wo = wr := ⟨_, rfl⟩
                by_cases hlt : k < n
                · have hcap : 0 < cap := by have := hs.ls.le; omega
                  have hfr := Fresh.start hs hgs (by omega) (.int .i64 0) rfl
                  have hsa := hs.alloc (.cells (madeCells #[.int .i64 0] 64) 3)
                  have hga := hgs.fresh ((Below.refl _ _).alloc (Nat.le_refl _) (.cells (madeCells #[.int .i64 0] 64) 3))
                  have hLk := hL k hlt
                  go_wp2_with fail
                  generalize wo.alloc (.cells (madeCells #[.int .i64 0] 64) 3) = w4 at *
                  generalize wo.heap.size = hm at *
                  go_loopw [13] (R4i B n cap ao A L C hg w G k hm A2 C2) (fun u13 _ => 64 - (intOf u13).toNat)
                  case atStart => exact ⟨0, Nat.zero_le _, rfl, hsa, hga, _, hfr⟩
                  case round =>
                    clear hs hgs hsa hga hfr
                    obtain ⟨i, hi, rfl, hsi, hgi, fm, hfi⟩ := hrel
                    by_cases hil : i < 64
                    · have hc1 := hfi.sl.cell (i := i) (by omega)
                      have hf1 := hfi.sl.frozen (by omega) i
                      go_wp2_with (go_at_call 34; refine (mark_same _ _ _ (by omega) (by omega) (by omega) (by omega)).mono ?_; rintro e w' ⟨rfl, rfl⟩)
                      go_roundw
                      case rel => exact ⟨i + 1, by omega, by go_num, hsi.putM hfi _, hgi.putM hfi _, _, hfi.put _ rfl⟩
                      case measure => simp [intOf]; omega
                    · obtain ⟨g0, rfl, _, _⟩ := hsi.ls.some_ hcap
                      have hcell : wr.cell? ⟨g0, k, none⟩ = some (.slice (A k) (L k) (C k)) := hsi.ls.cell (i := k) (by omega)
                      obtain ⟨news, hnl, hnc, hn1⟩ := fresh_list hfi
                      have Hnl := Lib.hid hnl
                      have Hnc := Lib.hid hnc
                      clear hnl hnc
                      go_wp2_with (at_builtin; refine wpList_append_sl _ rfl (.tmp 148) (.tmp 149) 23 rfl 3 i0 (.int .i64 0) 1 8 Tryz.underlying23 hi0 hz0 hz1 hz2 rfl rfl (hsi.fam k hlt) ⟨_, 0, none⟩ 64 64 news rfl Hnl.out Hnc.out hn1 (by unfold maxLen; omega) (by omega) ?_)
                      intro ao' cap' w1 hap
                      have hap' : Appended wr w1 3 1 (A k) (L k) (C k) ao' (L k + 64) cap' (fun j => if j < L k then Mi k j else news[j - L k]?.getD undef) := by simpa using hap
                      obtain ⟨hs1, hg1, hv1, hf1⟩ := many_next hsi hgi hlt hap'
                      clear hap hap' hcell hsi hgi hfi
                      have hgc : w1.cell? ⟨hg, k, none⟩ = some (G k) := (hg1.gs.cell (i := k) (by omega)).trans (by simp)
                      have hgf := hg1.gs.frozen (by omega) k
                      go_wp2_with fail
                      go_roundw
                      case rel => exact ⟨k + 1, hlt, by go_num, hs1.putG hg1 (by omega) hgl' k _, _, _, hg1.put hs1.ne hlt hv1 hf1⟩
                      case measure => simp [intOf]; omega
                · obtain rfl : n = k := by omega
                  go_wp2_with fail
                  go_loopw [14] (R5 B n cap ao A L C hg w G A2 C2) (fun u14 _ => n - (intOf u14).toNat)
                  case atStart => exact ⟨0, Nat.zero_le _, rfl, hs, hgs⟩
                  case round =>
                    clear hs hgs
                    obtain ⟨k, hk, rfl, hs, hgs⟩ := hrel
                    obtain ⟨wo, rfl⟩ : ∃ wo : World, wo = wr := ⟨_, rfl⟩
                    by_cases hlt : k < n
                    · have hcap : 0 < cap := by have := hs.ls.le; omega
                      obtain ⟨g0, rfl, _, _⟩ := hs.ls.some_ hcap
                      have hLk := hL k hlt
                      go_wp2_with fail
                      go_loopw [15] (R5i B n cap (some ⟨g0, 0, none⟩) A L C hg w G A2 C2 k) (fun u15 _ => L k - (intOf u15).toNat)
                      case atStart => exact ⟨0, Nat.zero_le _, rfl, hs, hgs⟩
                      case round =>
                        clear hs hgs
                        obtain ⟨i, hi, rfl, hsi, hgi⟩ := hrel
                        have hcell : wr.cell? ⟨g0, k, none⟩ = some (.slice (A k) (L k) (C k)) := hsi.ls.cell (i := k) (by omega)
                        have hgc : wr.cell? ⟨hg, k, none⟩ = some (.slice (A2 k) (L k + 64) (C2 k)) := (hgi.gs.cell (i := k) (by omega)).trans (by simp [hlt])
                        by_cases hil : i < L k
                        · have hsg := hgi.rows k hlt
                          obtain ⟨g1, hA1, _, _⟩ := hsg.some_ (by have := hsg.le; omega)
                          rw [hA1] at hgc hsg
                          have hc1 : wr.cell? ⟨g1, i, none⟩ = some (.int .i64 (1000003 * ((k : Int) + 7) + (i : Int))) := hsg.cell (i := i) (by omega)
                          clear hA1
                          have hsk := hsi.fam k hlt
                          obtain ⟨g2, hA2, _, _⟩ := hsk.some_ (by have := hsk.le; omega)
                          rw [hA2] at hcell hsk
                          have hc2 : wr.cell? ⟨g2, i, none⟩ = some (.int .i64 (1000003 * ((k : Int) + 7) + (i : Int))) := hsk.cell (i := i) (by omega)
                          clear hA2
                          go_wp2_with fail
                          go_quiet ((go_at_call 34; exact Calls.quiet_of_same (mark_any _ _ _ (by omega) (by omega) (by omega) (by omega))))
                          go_wp2_with fail
                          go_roundw
                          case rel => exact ⟨i + 1, by omega, by go_num, hsi.drewN _, hgi.drewN _⟩
                          case measure => simp [intOf]; omega
                        · go_wp2_with fail
                          go_roundw
                          case rel => exact ⟨k + 1, hlt, by go_num, hsi, hgi⟩
                          case measure => simp [intOf]; omega
                    · go_wp2_with fail
                      go_ret
                      exact ⟨rfl, hs.below⟩
end Go.Proofs.YtpfinkdpaomliaaGreat
