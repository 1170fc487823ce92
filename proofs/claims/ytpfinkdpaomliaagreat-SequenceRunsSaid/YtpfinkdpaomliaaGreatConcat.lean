/-
  slices.Grow of nil; slices.Concat; lists of slices of the call's own.
-/
import Derived.Test.YtpfinkdpaomliaaGreatOver
import Derived.Test.YtpfinkdpaomliaaGreatMarks
import Derived.Lib.AppendZeros
namespace Go.Proofs.YtpfinkdpaomliaaGreat
open Go.RowKit

theorem zeros_ints (n : Nat) : Builtin.zeroCells #[.int .i64 0] n = Array.replicate n (.int .i64 0) := by
  apply Array.ext
  · simp [Builtin.zeroCells]
  · intro i h1 h2
    simp [Builtin.zeroCells, Nat.mod_one]

set_option maxRecDepth 1000000 in
set_option maxHeartbeats 1000000 in
theorem grow_any (w : World) (k : Nat) (hk : k ≤ 1048576) :
    Calls Tryz.prog 68 #[.slice none 0 0, .int .i64 k] w fun e w' => ∃ bo cap, e = .returned (.slice bo 0 cap) ∧ OwnI w.heap.size w' bo 0 cap [] ∧ Below w.heap.size w w' := by
  obtain ⟨i0, hi0, hz0, hz1, hz2⟩ := info_parts infoI
  by_cases h0 : k = 0
  · subst h0
    go_enter Tryz.func68, Tryz.ntmps68
    go_wp2_with fail
    go_ret
    exact ⟨none, 0, rfl, ⟨Sl.nil _ _ _ _ _, rfl, fun g hg => by simp [rowOf] at hg⟩, Below.refl _ _⟩
  · have h1 : ¬ (k : Int) < 0 := by omega
    have h2 : (0 : Int) < (k : Int) := by omega
    have hap := Lib.run_append_nil_zeros (P := Tryz.prog) w 23 3 23 3 i0 (.int .i64 0) .i64 .i64 Tryz.underlying23 Tryz.underlying3 hi0 hz0 k (by omega) (by omega) (by omega) (by rw [hz2]; omega)
    have Hap := Lib.hid hap
    clear hap
    go_enter Tryz.func68, Tryz.ntmps68
    go_wp2_with (at_builtin; refine Lib.wpList_append_run _ rfl _ _ _ _ rfl _ _ rfl rfl _ _ Hap.out ?_)
    go_ret
    have hcap := grownCap_ge w k 0 3
    refine ⟨some ⟨w.heap.size, 0, none⟩, grownCap w k 0 3, rfl, ⟨⟨Nat.zero_le _, grownCap_le_maxLen w k 0 3 (by unfold maxLen; omega), .inr ⟨_, _, rfl, heap_alloc_new w _, ?_, fun i hi => absurd hi (by omega)⟩⟩, rfl, fun g hg => by rw [rowOf_new hg]; exact Nat.le_refl _⟩, ((Below.refl _ _).alloc (Nat.le_refl _) _).drew⟩
    simp [Value.cells, Builtin.zeroCells]
    omega

/-- A slice: where it lies, how long it is, its room. -/
structure Slc where
  ao : Option Addr
  n : Nat
  cap : Nat
def Slc.val (s : Slc) : Value := .slice s.ao s.n s.cap
def slcD : Slc := ⟨none, 0, 0⟩
def slcC (s : Slc) : List Value := [s.val]
theorem slcE : Enc 1 slcC := ⟨by omega, fun _ => rfl, fun x u hu => by simp [slcC] at hu; subst hu; rfl⟩
/-- Slices that read as lists of integers. -/
structure RdFam (w : World) (ss : List Slc) (xss : List (List Int)) : Prop where
  len : ss.length = xss.length
  at_ : ∀ k, k < xss.length → Ints w (ss.getD k slcD).ao (ss.getD k slcD).n (xss.getD k [])
/-- Slices of the call's own, each in a block of its own. -/
structure Fam (B : Nat) (w : World) (ss : List Slc) (xss : List (List Int)) : Prop where
  len : ss.length = xss.length
  at_ : ∀ k, k < xss.length → OwnI B w (ss.getD k slcD).ao (ss.getD k slcD).n (ss.getD k slcD).cap (xss.getD k [])
  dist : ∀ j k, j < xss.length → k < xss.length → j ≠ k → ∀ g, rowOf (ss.getD j slcD).ao (ss.getD j slcD).cap = some g → rowOf (ss.getD k slcD).ao (ss.getD k slcD).cap ≠ some g
theorem Fam.rd {B : Nat} {w : World} {ss : List Slc} {xss : List (List Int)} (h : Fam B w ss xss) : RdFam w ss xss := ⟨h.len, fun k hk => (h.at_ k hk).ints⟩
theorem RdFam.below {w w' : World} {ss : List Slc} {xss : List (List Int)} (h : RdFam w ss xss) (hb : Below w.heap.size w w') : RdFam w' ss xss := ⟨h.len, fun k hk => (h.at_ k hk).below hb⟩
theorem Fam.below {B : Nat} {w w' : World} {ss : List Slc} {xss : List (List Int)} (h : Fam B w ss xss) (hb : Below w.heap.size w w') : Fam B w' ss xss := ⟨h.len, fun k hk => (h.at_ k hk).below hb, h.dist⟩
theorem Fam.mono {B B' : Nat} {w : World} {ss : List Slc} {xss : List (List Int)} (h : Fam B w ss xss) (hB : B' ≤ B) : Fam B' w ss xss := ⟨h.len, fun k hk => (h.at_ k hk).mono hB, h.dist⟩
theorem RdFam.nil (w : World) : RdFam w [] [] := ⟨rfl, fun k hk => absurd hk (Nat.not_lt_zero _)⟩
theorem Fam.nil (B : Nat) (w : World) : Fam B w [] [] := ⟨rfl, fun k hk => absurd hk (Nat.not_lt_zero _), fun j k hj => absurd hj (Nat.not_lt_zero _)⟩
/-- Lists of no integers in no memory. -/
theorem Fam.blank (B : Nat) (w : World) (n : Nat) : Fam B w (List.replicate n slcD) (List.replicate n []) := by
  have key : ∀ k, k < n → (List.replicate n slcD).getD k slcD = slcD ∧ (List.replicate n ([] : List Int)).getD k [] = [] := fun k hk => by
    simp [List.getD_eq_getElem?_getD, hk]
  refine ⟨by simp, fun k hk => ?_, fun j k hj hk hne g hg => ?_⟩
  · have hk : k < n := by simpa using hk
    rw [(key k hk).1, (key k hk).2]
    exact ⟨Sl.nil _ _ _ _ _, rfl, fun g hg => by simp [rowOf, slcD] at hg⟩
  · have hj : j < n := by simpa using hj
    rw [(key j hj).1] at hg
    simp [rowOf, slcD] at hg

/-- All in one list (a name that the walk does not open). -/
def joinP (xss : List (List Int)) : List Int := xss.flatten
theorem flatten_take (xss : List (List Int)) (k : Nat) (hk : k < xss.length) : joinP (xss.take (k + 1)) = joinP (xss.take k) ++ xss.getD k [] := by
  unfold joinP
  rw [take_snoc' xss [] k hk, List.flatten_append]
  simp
theorem flatten_le (xss : List (List Int)) : ∀ k, (joinP (xss.take k)).length ≤ (joinP xss).length := by
  intro k
  unfold joinP
  conv => rhs; rw [← List.take_append_drop k xss]
  rw [List.flatten_append, List.length_append]
  omega

def R50a (xss : List (List Int)) (m : Nat) (u3 u11 : Value) : Prop := ∃ i : Nat, i ≤ m ∧ u11 = .int .i64 i ∧ u3 = .int .i64 ((joinP (xss.take i)).length : Int)
def R50b (xss : List (List Int)) (m B : Nat) (w0 : World) (u6 u27 : Value) (wr : World) : Prop :=
  ∃ (i : Nat) (ao : Option Addr) (cap : Nat), i ≤ m ∧ u27 = .int .i64 i ∧ u6 = .slice ao (joinP (xss.take i)).length cap ∧ OwnI B wr ao (joinP (xss.take i)).length cap (joinP (xss.take i)) ∧ Below B w0 wr

set_option maxRecDepth 1000000 in
set_option maxHeartbeats 1000000 in
theorem concat_any (w : World) (ao : Option Addr) (m c : Nat) (ss : List Slc) (xss : List (List Int)) (h : RdL 1 slcC slcD w ao m ss) (hf : RdFam w ss xss) (hm : m ≤ 1048576) (hN : (joinP xss).length ≤ 1048576) :
    Calls Tryz.prog 50 #[.slice ao m c] w fun e w' => ∃ bo cap, e = .returned (.slice bo (joinP xss).length cap) ∧ OwnI w.heap.size w' bo (joinP xss).length cap (joinP xss) ∧ Below w.heap.size w w' := by
  obtain ⟨i0, hi0, hz0, hz1, hz2⟩ := info_parts infoI
  have Hl := Lib.hid h.len
  have Hxl : Hid (xss.length = m) := by show _ = _; rw [← hf.len, Hl.out]
  have Hall : Hid ((joinP (xss.take m)) = (joinP xss)) := by show _ = _; rw [List.take_of_length_le (by rw [Hxl.out]; exact Nat.le_refl _)]
  go_enter Tryz.func50, Tryz.ntmps50
  go_wp2_with fail
  go_loop [3, 11] (R50a xss m) (fun _ u11 => m - (intOf u11).toNat)
  case atStart => exact ⟨0, Nat.zero_le _, rfl, rfl⟩
  case round =>
    obtain ⟨i, hi, rfl, rfl⟩ := hrel
    by_cases hlt : i < m
    · obtain ⟨g, off, rfl, hg, hc⟩ := h.cell (by omega) hlt
      have e0 : w.cell? ⟨g, off + i, none⟩ = some (.slice (ss.getD i slcD).ao (ss.getD i slcD).n (ss.getD i slcD).cap) := by have := hc 0 (by omega); rw [Nat.mul_one, Nat.add_zero] at this; exact this
      have hln := (hf.at_ i (by rw [Hxl.out]; exact hlt)).len
      have hle := flatten_le xss (i + 1)
      have hft := flatten_take xss i (by rw [Hxl.out]; exact hlt)
      have hft2 : (joinP (xss.take (i + 1))).length = (joinP (xss.take i)).length + (ss.getD i slcD).n := by rw [hft, List.length_append, hln]
      have Hft2 := Lib.hid hft2
      have hbd : (joinP (xss.take i)).length + (ss.getD i slcD).n ≤ 1048576 := by omega
      clear hc hln hle hft hft2
      generalize (ss.getD i slcD).n = sn at *
      generalize (joinP (xss.take i)).length = q at *
      go_wp2_with fail
      go_round
      case rel => exact ⟨i + 1, hlt, by go_num, by rw [Hft2.out]; go_num⟩
      case measure => simp [intOf] <;> omega
    · obtain rfl : i = m := by omega
      rw [Hall.out]
      have hgr := grow_any w (joinP xss).length hN
      have Hgr := Lib.hid hgr
      clear hgr
      go_wp2_with (go_at_call 68; refine Hgr.out.mono ?_; rintro e w1 ⟨ao1, cap1, rfl, hown, hb⟩)
      go_loopw [6, 27] (R50b xss i w.heap.size w) (fun _ u27 _ => i - (intOf u27).toNat)
      case atStart => exact ⟨0, ao1, cap1, Nat.zero_le _, rfl, rfl, hown, hb⟩
      case round =>
        clear hown hb
        obtain ⟨j, ao2, cap2, hj, rfl, rfl, hown, hb⟩ := hrel
        have hsz := hb.size
        by_cases hlt2 : j < i
        · obtain ⟨g, off, rfl, hg, hc⟩ := (h.below hb).cell (by omega) hlt2
          have e0 : wr.cell? ⟨g, off + j, none⟩ = some (.slice (ss.getD j slcD).ao (ss.getD j slcD).n (ss.getD j slcD).cap) := by have := hc 0 (by omega); rw [Nat.mul_one, Nat.add_zero] at this; exact this
          have hrd := (hf.at_ j (by rw [Hxl.out]; exact hlt2)).below hb
          have hle := flatten_le xss (j + 1)
          have hft := flatten_take xss j (by rw [Hxl.out]; exact hlt2)
          have hln := hrd.len
          have hft2 : (joinP (xss.take (j + 1))).length = (joinP (xss.take j)).length + (ss.getD j slcD).n := by rw [hft, List.length_append, hln]
          have Hft := Lib.hid hft
          have Hft2 := Lib.hid hft2
          have Hln := Lib.hid hln
          have hbd : (joinP (xss.take j)).length + (ss.getD j slcD).n ≤ 1048576 := by omega
          have hsrc := ints_src Tryz.underlying23 hrd (ss.getD j slcD).cap
          have Hsrc := Lib.hid hsrc
          clear hc hle hft hft2 hsrc hln
          generalize (ss.getD j slcD).n = sn at *
          generalize (ss.getD j slcD).ao = sa at *
          generalize (ss.getD j slcD).cap = sc at *
          go_wp2_with (at_builtin; refine wpList_append_of _ rfl (.tmp 31) (.tmp 32) 23 23 rfl 3 i0 _ 1 8 Tryz.underlying23 hi0 hz0 hz1 hz2 rfl rfl hown.sl (.slice sa sn sc) rfl sn _ Hsrc.out (by unfold maxLen; omega) (by omega) ?_)
          intro ao3 cap3 w3 ha
          have ha' : Appended wr w3 3 1 ao2 (joinP (xss.take j)).length cap2 ao3 ((joinP (xss.take j)).length + sn) cap3 (fun q => if q < (joinP (xss.take j)).length then intF (joinP (xss.take j)) q else ((xss.getD j []).map (Value.int .i64))[q - (joinP (xss.take j)).length]?.getD undef) := by
            first | exact ha | (simp at ha; exact ha) | simpa using ha
          have hown3 := ownI_app hown (by omega) rfl Hln.out rfl ha'
          have hb3 := ownI_grown hown (Nat.le_refl _) hsz hb ha'
          clear ha ha' hown hb
          go_wp2_with fail
          go_roundw
          case rel => exact ⟨j + 1, ao3, cap3, hlt2, by go_num, by rw [Hft2.out], by rw [Hft2.out, Hft.out]; exact hown3, hb3⟩
          case measure => simp [intOf] <;> omega
        · obtain rfl : j = i := by omega
          rw [Hall.out] at hown
          go_wp2_with fail
          go_ret
          exact ⟨ao2, cap2, by first | rfl | (rw [Hall.out]; rfl), hown, hb⟩
end Go.Proofs.YtpfinkdpaomliaaGreat
