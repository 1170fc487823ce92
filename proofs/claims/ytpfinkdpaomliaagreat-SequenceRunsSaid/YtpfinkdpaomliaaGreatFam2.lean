/-
  Families of slices joined; 'ApartInts' of such a family; 'lists' of the law of chapter 28.
-/
import Derived.Test.YtpfinkdpaomliaaGreatFam
import Derived.Test.YtpfinkdpaomliaaGreatApartInts
import Derived.Test.YtpfinkdpaomliaaGreatAfter
namespace Go.Proofs.YtpfinkdpaomliaaGreat
open Go.RowKit

theorem getD_app_l {α : Type} (l m : List α) (k : Nat) (d : α) (h : k < l.length) : (l ++ m).getD k d = l.getD k d := by
  rw [List.getD_eq_getElem?_getD, List.getD_eq_getElem?_getD, List.getElem?_append_left h]
theorem getD_app_r {α : Type} (l m : List α) (k : Nat) (d : α) (h : l.length ≤ k) : (l ++ m).getD k d = m.getD (k - l.length) d := by
  rw [List.getD_eq_getElem?_getD, List.getD_eq_getElem?_getD, List.getElem?_append_right h]

section
variable {B M : Nat} {w w1 : World} {ss ts : List Slc} {xss yss : List (List Int)}
/-- The blocks in which slices lie. -/
def rowAt (ss : List Slc) (k : Nat) : Option Nat := rowOf (ss.getD k slcD).ao (ss.getD k slcD).cap
theorem fam_append (h1 : Fam B w ss xss) (h2 : Fam B w ts yss) (hd : ∀ j k, j < xss.length → k < yss.length → ∀ g, rowAt ss j = some g → rowAt ts k ≠ some g) : Fam B w (ss ++ ts) (xss ++ yss) := by
  have l1 := h1.len
  have l2 := h2.len
  refine ⟨by rw [List.length_append, List.length_append, l1, l2], fun k hk => ?_, fun j k hj hk hne g hg => ?_⟩
  · rw [List.length_append] at hk
    by_cases e : k < xss.length
    · rw [getD_app_l _ _ _ _ e, getD_app_l _ _ _ _ (by omega)]
      exact h1.at_ k e
    · rw [getD_app_r _ _ _ _ (by omega), getD_app_r _ _ _ _ (by omega), l1]
      exact h2.at_ _ (by omega)
  · rw [List.length_append] at hj hk
    by_cases ej : j < xss.length
    · rw [getD_app_l _ _ _ _ (by omega)] at hg
      by_cases ek : k < xss.length
      · rw [getD_app_l _ _ _ _ (by omega)]
        exact h1.dist j k ej ek hne g hg
      · rw [getD_app_r _ _ _ _ (by omega), l1]
        exact hd j _ ej (by omega) g hg
    · rw [getD_app_r _ _ _ _ (by omega), l1] at hg
      by_cases ek : k < xss.length
      · rw [getD_app_l _ _ _ _ (by omega)]
        intro hx
        exact hd k _ ek (by omega) g hx hg
      · rw [getD_app_r _ _ _ _ (by omega), l1]
        exact h2.dist _ _ (by omega) (by omega) (by omega) g hg
theorem fam_one {ao : Option Addr} {n cap : Nat} {xs : List Int} (h : OwnI B w ao n cap xs) : Fam B w [⟨ao, n, cap⟩] [xs] := by
  refine ⟨rfl, fun k hk => ?_, fun j k hj hk hne => ?_⟩
  · have : k = 0 := by simp at hk; omega
    subst this
    exact h
  · simp at hj hk
    omega
theorem fam_snoc (h1 : Fam B w ss xss) {ao : Option Addr} {n cap : Nat} {xs : List Int} (h : OwnI B w ao n cap xs) (hd : ∀ j, j < xss.length → ∀ g, rowAt ss j = some g → rowOf ao cap ≠ some g) : Fam B w (ss ++ [⟨ao, n, cap⟩]) (xss ++ [xs]) := by
  refine fam_append h1 (fam_one h) fun j k hj hk g hg => ?_
  have : k = 0 := by simp at hk; omega
  subst this
  exact hd j hj g hg
theorem Fam.row_lt (h : Fam B w ss xss) {k : Nat} (hk : k < xss.length) {g : Nat} (hg : rowAt ss k = some g) : g < w.heap.size := (h.at_ k hk).sl.row_lt g hg
theorem Fam.row_ge (h : Fam B w ss xss) {k : Nat} (hk : k < xss.length) {g : Nat} (hg : rowAt ss k = some g) : B ≤ g := (h.at_ k hk).row g hg
theorem cellsF_slc (ss : List Slc) (j : Nat) : cellsF 1 slcC slcD ss j = .slice (ss.getD j slcD).ao (ss.getD j slcD).n (ss.getD j slcD).cap := by
  unfold cellsF
  rw [Nat.div_one, Nat.mod_one]
  rfl
theorem Fam.grown2 {w' : World} (h : Fam B w ss xss) {row : Option Nat} (hg : w.grownBy w' row) (hr : ∀ g, row = some g → ∀ k, k < xss.length → rowAt ss k ≠ some g) : Fam B w' ss xss := h.grown hg hr
end

/-- A family of slices shares no memory. -/
theorem apart_fam (w : World) (B n cap : Nat) (ao : Option Addr) (ss : List Slc) (xss : List (List Int)) (h : OwnL 1 slcC slcD 23 B w ao n cap ss) (hf : Fam B w ss xss) (hB : B ≤ w.heap.size) (hn : n ≤ 1048576) (hL : ∀ k, k < n → (xss.getD k []).length ≤ 1048576) :
    Calls Tryz.prog 23 #[.slice ao n cap] w fun e w' => e = .returned (.bool true) ∧ Below B w w' := by
  have hl : ss.length = n := h.len
  have hxl : xss.length = n := by rw [← hf.len]; exact hl
  refine (ApartInts_any n cap ao (fun k => (ss.getD k slcD).ao) (fun k => (ss.getD k slcD).n) (fun k => (ss.getD k slcD).cap) (fun k => intF (xss.getD k [])) w hn (fun k hk => ?_) (h.sl.congr fun j _ => cellsF_slc ss j) (fun k hk => (hf.at_ k (by omega)).sl)
    (fun j k hj hk hne g hg => hf.dist j k (by omega) (by omega) hne g hg)).mono fun e w' ⟨he, ho⟩ => ⟨he, ho.below hB fun g hg => ?_⟩
  · have := (hf.at_ k (by omega)).len
    rw [← this]
    exact hL k hk
  · rcases hg with ⟨k, hk, hg⟩ | hg
    · exact (hf.at_ k (by omega)).row g hg
    · omega

/-- The same; blocks of another kind stay as they were. -/
theorem apart_fam2 (w : World) (B n cap : Nat) (ao : Option Addr) (ss : List Slc) (xss : List (List Int)) (h : OwnL 1 slcC slcD 23 B w ao n cap ss) (hf : Fam B w ss xss) (hB : B ≤ w.heap.size) (hn : n ≤ 1048576) (hL : ∀ k, k < n → (xss.getD k []).length ≤ 1048576) :
    Calls Tryz.prog 23 #[.slice ao n cap] w fun e w' => e = .returned (.bool true) ∧ Below B w w' ∧ ∀ (b : Nat) (cur : Array Value) (t : TypeId), w.heap[b]? = some (.cells cur t (0, 0)) → t ≠ 3 → w'.heap[b]? = some (.cells cur t (0, 0)) := by
  have hl : ss.length = n := h.len
  have hxl : xss.length = n := by rw [← hf.len]; exact hl
  refine (ApartInts_any n cap ao (fun k => (ss.getD k slcD).ao) (fun k => (ss.getD k slcD).n) (fun k => (ss.getD k slcD).cap) (fun k => intF (xss.getD k [])) w hn (fun k hk => ?_) (h.sl.congr fun j _ => cellsF_slc ss j) (fun k hk => (hf.at_ k (by omega)).sl)
    (fun j k hj hk hne g hg => hf.dist j k (by omega) (by omega) hne g hg)).mono fun e w' ⟨he, ho⟩ => ⟨he, ho.below hB fun g hg => ?_, fun b cur t hb ht => ?_⟩
  · have := (hf.at_ k (by omega)).len
    rw [← this]
    exact hL k hk
  · rcases hg with ⟨k, hk, hg⟩ | hg
    · exact (hf.at_ k (by omega)).row g hg
    · omega
  · have hlt := (Array.getElem?_eq_some_iff.1 hb).1
    refine (ho.block b hlt fun hx => ?_).trans hb
    rcases hx with ⟨k, hk, hg⟩ | hg
    · exact hf.other hb ht k (by omega) hg
    · omega
theorem getD_all {P : List Int → Prop} {xs ys : List (List Int)} (h1 : ∀ k, P (xs.getD k [])) (h2 : ∀ k, P (ys.getD k [])) : ∀ k, P ((xs ++ ys).getD k []) := fun k => by
  by_cases e : k < xs.length
  · rw [getD_app_l _ _ _ _ e]; exact h1 k
  · rw [getD_app_r _ _ _ _ (by omega)]; exact h2 _

def R21 (m B : Nat) (w0 : World) (u : Value) (wr : World) : Prop := ∃ i : Nat, i ≤ m ∧ u = .int .i64 i ∧ Below B w0 wr

set_option maxRecDepth 1000000 in
set_option maxHeartbeats 1000000 in
theorem lists_any (w : World) (ao bo : Option Addr) (m c c1 : Nat) (ss ts : List Slc) (xss : List (List Int)) (h : RdL 1 slcC slcD w ao m ss) (hf : RdFam w ss xss) (h' : RdL 1 slcC slcD w bo m ts) (hf' : RdFam w ts xss) (hm : m ≤ 1048576) (hL : ∀ k, k < m → (xss.getD k []).length ≤ 1048576) :
    Calls Tryz.prog 21 #[.slice ao m c, .slice bo m c1] w fun e w' => e = .returned (.bool true) ∧ Below w.heap.size w w' := by
  have hxl : xss.length = m := by rw [← hf.len]; exact h.len
  have r0 : ((m : Int) != (m : Int)) = false := by simp
  go_enter Tryz.func21, Tryz.ntmps21
  go_wp2_with fail
  go_loopw [5] (R21 m w.heap.size w) (fun u _ => m - (intOf u).toNat)
  case atStart => exact ⟨0, Nat.zero_le _, rfl, Below.refl _ _⟩
  case round =>
    obtain ⟨i, hi, rfl, hb⟩ := hrel
    by_cases hlt : i < m
    · obtain ⟨g, off, rfl, hg, hc⟩ := (h.below hb).cell (by omega) hlt
      obtain ⟨g', off', rfl, hg', hc'⟩ := (h'.below hb).cell (by omega) hlt
      have e0 : wr.cell? ⟨g, off + i, none⟩ = some (.slice (ss.getD i slcD).ao (ss.getD i slcD).n (ss.getD i slcD).cap) := by have := hc 0 (by omega); rw [Nat.mul_one, Nat.add_zero] at this; exact this
      have e1 : wr.cell? ⟨g', off' + i, none⟩ = some (.slice (ts.getD i slcD).ao (ts.getD i slcD).n (ts.getD i slcD).cap) := by have := hc' 0 (by omega); rw [Nat.mul_one, Nat.add_zero] at this; exact this
      have x0 := (hf.below hb).at_ i (by omega)
      have x1 := (hf'.below hb).at_ i (by omega)
      have hli := hL i hlt
      have hx0 := x0.len
      have hx1 := x1.len
      generalize (ss.getD i slcD).ao = s0 at *
      generalize (ss.getD i slcD).n = s1 at *
      generalize (ss.getD i slcD).cap = s2 at *
      generalize (ts.getD i slcD).ao = t0 at *
      generalize (ts.getD i slcD).n = t1 at *
      generalize (ts.getD i slcD).cap = t2 at *
      have hi0 : (0 : Int) ≤ (i : Int) := by omega
      have hi1 : (i : Int) < (m : Int) := by omega
      have hA := after_cell e0
      have hB := after_cell e1
      have Hs : Hid (∀ d : After wr, Calls Tryz.prog 22 #[.slice s0 s1 s2, .slice t0 t1 t2] d.val fun e w' => e = .returned (.bool true) ∧ Below d.val.heap.size d.val w') := fun d => by
        have := SameInts_any d.val s0 t0 s1 s2 t1 t2 _ _ (x0.below d.2) (x1.below d.2) (by omega) (by omega)
        rw [decide_eq_true rfl] at this
        exact this
      clear x0 x1 hc hc'
      go_wp2_with fail
      refine wp_region_after (by kernel_rfl) (by kernel_rfl) ?_
      repeat (go_big_quiet_step ((go_at_call 22; exact After.quiet _ (Hs.out _))))
      refine wpQuiet_nil ?_
      intro _ hw'
      obtain ⟨dq, hw''⟩ := hw'
      subst hw''
      clear hA hB
      go_wp2_with fail
      go_roundw
      case rel => exact ⟨i + 1, hlt, by go_num, hb.trans (dq.2.mono hb.size)⟩
      case measure => simp [intOf] <;> omega
    · obtain rfl : i = m := by omega
      go_wp2_with fail
      go_ret
      exact ⟨rfl, hb⟩
end Go.Proofs.YtpfinkdpaomliaaGreat
