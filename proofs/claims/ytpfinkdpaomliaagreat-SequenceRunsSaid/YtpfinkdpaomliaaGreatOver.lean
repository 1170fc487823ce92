/-
  'over' of the package; slices.Clone.
-/
import Derived.Test.YtpfinkdpaomliaaGreatWrong40
import Derived.WalkSpells
namespace Go.Proofs.YtpfinkdpaomliaaGreat
open Go.RowKit

theorem find_some {p : Nat → Bool} {n i : Nat} (hi : i < n) (h : p i = true) (hno : ∀ j, j < i → p j = false) : (List.range n).find? p = some i := by
  rw [List.find?_eq_some_iff_append]
  refine ⟨h, List.range i, (List.range (n - (i + 1))).map (· + (i + 1)), ?_, ?_⟩
  · apply List.ext_getElem
    · simp; omega
    · intro j h1 h2
      simp only [List.getElem_range]
      rcases Nat.lt_trichotomy j i with h | h | h
      · rw [List.getElem_append_left (by simpa using h)]; simp
      · subst h; rw [List.getElem_append_right (by simp)]; simp
      · rw [List.getElem_append_right (by simp; omega)]
        simp only [List.length_range]
        rw [List.getElem_cons]
        split
        · omega
        · simp; omega
  · intro j hj
    rw [List.mem_range] at hj
    rw [hno j hj]
    rfl
theorem find_none {p : Nat → Bool} {n : Nat} (hno : ∀ j, j < n → p j = false) : (List.range n).find? p = none := by
  rw [List.find?_eq_none]
  intro j hj
  rw [List.mem_range] at hj
  rw [hno j hj]
  exact Bool.false_ne_true

def overAt (caps f g : List Int) (i : Nat) : Bool := decide (capAt caps i < f.getD i 0) || decide (capAt caps i < g.getD i 0)
def Rover44 (caps f g : List Int) (n : Nat) (u : Value) : Prop := ∃ i : Nat, i ≤ n ∧ u = .int .i64 i ∧ ∀ j, j < i → overAt caps f g j = false

theorem over_cases (c a b : Int) : (decide (c < a) || decide (c < b)) = true ∧ c < a ∨ (decide (c < a) || decide (c < b)) = true ∧ ¬ c < a ∧ c < b ∨ (decide (c < a) || decide (c < b)) = false ∧ ¬ c < a ∧ ¬ c < b := by
  by_cases h1 : c < a
  · exact .inl ⟨by simp [h1], h1⟩
  · by_cases h2 : c < b
    · exact .inr (.inl ⟨by simp [h2], h1, h2⟩)
    · exact .inr (.inr ⟨by simp [h1, h2], h1, h2⟩)

set_option maxRecDepth 100000 in
set_option maxHeartbeats 1000000 in
theorem over_any (w : World) (ao bo do_ : Option Addr) (n c c1 c2 : Nat) (caps f g : List Int) (h : Ints w ao n caps) (hf : Ints w bo n f) (hg : Ints w do_ n g) (hn : n ≤ 1048576) :
    Calls Tryz.prog 44 #[.slice ao n c, .slice bo n c1, .slice do_ n c2] w fun e w' => e = .returned (wrongT (overP caps f g)) ∧ w = w' := by
  have Hl := Lib.hid h.len
  go_enter Tryz.func44, Tryz.ntmps44
  go_wp2_with fail
  go_loop [12] (Rover44 caps f g n) (fun u12 => n - (intOf u12).toNat)
  case atStart => exact ⟨0, Nat.zero_le _, rfl, fun j hj => absurd hj (by omega)⟩
  case round =>
    obtain ⟨i, hi, rfl, hall⟩ := hrel
    have Hall := Lib.hid hall
    clear hall
    by_cases hlt : i < n
    · obtain ⟨b0, o0, rfl, _, hc0⟩ := h.at hlt
      obtain ⟨b1, o1, rfl, _, hc1⟩ := hf.at hlt
      obtain ⟨b2, o2, rfl, _, hc2⟩ := hg.at hlt
      have Hat : Hid (overAt caps f g i = (decide (caps.getD i 0 < f.getD i 0) || decide (caps.getD i 0 < g.getD i 0))) := rfl
      have Hyes : Hid (overAt caps f g i = true → overP caps f g = some i) := fun hx => find_some (by rw [Hl.out]; exact hlt) hx Hall.out
      generalize caps.getD i 0 = x at hc0 Hat
      generalize f.getD i 0 = y at hc1 Hat
      generalize g.getD i 0 = z at hc2 Hat
      rcases over_cases x y z with ⟨e, q1⟩ | ⟨e, q1, q2⟩ | ⟨e, q1, q2⟩
      · have E := Lib.hid (Hyes.out (Hat.out.trans e))
        clear e
        go_wp2_with fail
        go_ret2
        exact ⟨by rw [E.out]; rfl, rfl⟩
      · have E := Lib.hid (Hyes.out (Hat.out.trans e))
        clear e
        go_wp2_with fail
        go_ret2
        exact ⟨by rw [E.out]; rfl, rfl⟩
      · have E := Lib.hid (Hat.out.trans e)
        clear e
        go_wp2_with fail
        go_round
        case rel => exact ⟨i + 1, hlt, by go_num, fun j hj => (by
          by_cases e : j = i
          · subst e; exact E.out
          · exact Hall.out j (by omega))⟩
        case measure => simp [intOf] <;> omega
    · obtain rfl : i = n := by omega
      have E : Hid (overP caps f g = none) := find_none (fun j hj => Hall.out j (by rw [Hl.out] at hj; exact hj))
      go_wp2_with fail
      go_ret2
      exact ⟨by rw [E.out]; rfl, rfl⟩

set_option maxRecDepth 1000000 in
set_option maxHeartbeats 1000000 in
theorem clone_any (w : World) (ao : Option Addr) (n c : Nat) (xs : List Int) (h : Ints w ao n xs) (hn : n ≤ 1048576) (hao : ao.isSome = true) :
    Calls Tryz.prog 42 #[.slice ao n c] w fun e w' => ∃ bo cap, e = .returned (.slice bo n cap) ∧ OwnI w.heap.size w' bo n cap xs ∧ Below w.heap.size w w' := by
  obtain ⟨i0, hi0, hz0, hz1, hz2⟩ := info_parts infoI
  obtain ⟨ad, rfl⟩ := Option.isSome_iff_exists.1 hao
  have Hl := Lib.hid h.len
  have hb0 := Below.refl w.heap.size w
  have hq := fun w => Lib.run_eql_slice_nil (P := Tryz.prog) w 23 3 (some ad) n c 0 0 Tryz.underlying23
  simp only [Option.isNone_some] at hq
  have hb1 : Below w.heap.size w (w.alloc (.cells #[] 3)) := hb0.alloc (Nat.le_refl _) _
  have hs0 : Sl (w.alloc (.cells #[] 3)) 3 1 (some ⟨w.heap.size, 0, none⟩) 0 0 (intF []) := Sl.nil _ _ _ _ _
  have h1 := h.below hb1
  go_enter Tryz.func42, Tryz.ntmps42
  go_wp2_with (at_builtin; refine wpList_append_of _ rfl (.tmp 5) (.tmp 6) 23 23 rfl 3 i0 _ 1 8 Tryz.underlying23 hi0 hz0 hz1 hz2 rfl rfl hs0 (.slice (some ad) n c) rfl n (xs.map (Value.int .i64)) (ints_src Tryz.underlying23 h1 c) (by unfold maxLen; omega) (by omega) ?_)
  intro ao1 cap1 w1 ha1
  have hown : OwnI w.heap.size w1 ao1 n cap1 xs := by
    refine ⟨ha1.sl.congr fun j hj => ?_, Hl.out, ?_⟩
    · unfold intF
      have hjl : j < xs.length := by rw [Hl.out]; omega
      simp [List.getD_eq_getElem?_getD, List.getElem?_eq_getElem hjl]
    · intro g hg
      rcases ha1.way with ⟨rfl, rfl, _, _⟩ | ⟨_, rfl, _, _⟩
      · simp [rowOf] at hg
      · have := rowOf_new hg; simp at this; omega
  have hb2 : Below w.heap.size w w1 := hb1.grown ha1.grown (by simp) fun g hg => by simp [rowOf] at hg
  clear ha1 hs0 hb0 hb1 h1 hq
  go_wp2_with fail
  go_ret
  exact ⟨ao1, cap1, by simp, hown, hb2⟩
theorem ownI_clone {w2 w3 : World} {xs : List Int} {n n' cap' : Nat} {ao' : Option Addr} {f : Nat → Value} (ha : Appended (w2.alloc (.cells #[] 3)) w3 3 1 (some ⟨w2.heap.size, 0, none⟩) 0 0 ao' n' cap' f) (hn : n' = n)
    (hl : xs.length = n) (hf : ∀ j, j < n → f j = (xs.map (Value.int .i64))[j]?.getD undef) : OwnI w2.heap.size w3 ao' n cap' xs ∧ Below w2.heap.size w2 w3 := by
  subst hn
  refine ⟨⟨ha.sl.congr fun j hj => ?_, hl, ?_⟩, ?_⟩
  · have hjl : j < xs.length := by omega
    rw [hf j (by omega)]
    unfold intF
    simp [List.getD_eq_getElem?_getD, List.getElem?_eq_getElem hjl]
  · intro g hg
    rcases ha.way with ⟨rfl, rfl, _, _⟩ | ⟨_, rfl, _, _⟩
    · simp [rowOf] at hg
    · have := rowOf_new hg; simp at this; omega
  · exact ((Below.refl _ _).alloc (Nat.le_refl _) _).grown ha.grown (by simp) fun g hg => by simp [rowOf] at hg
end Go.Proofs.YtpfinkdpaomliaaGreat
