/-
  'machine' of the package and of the reference: whether numbers are the capacities of a machine.
-/
import Derived.Test.YtpfinkdpaomliaaGreatLent
namespace Go.Proofs.YtpfinkdpaomliaaGreat
open Go.RowKit

def okCap (c : Int) : Bool := decide (1 ≤ c) && decide (c ≤ 100000)
def machineP (caps : List Int) : Bool := decide (1 ≤ caps.length) && decide (caps.length ≤ 64) && caps.all okCap

theorem all_no {p : Int → Bool} {xs : List Int} {k : Nat} (hk : k < xs.length) (h : p (xs.getD k 0) = false) : xs.all p = false := by
  rw [List.all_eq_false]
  refine ⟨xs.getD k 0, ?_, by rw [h]; exact Bool.false_ne_true⟩
  rw [List.getD_eq_getElem?_getD, List.getElem?_eq_getElem hk]
  exact List.getElem_mem hk
theorem all_yes {p : Int → Bool} {xs : List Int} (h : ∀ k, k < xs.length → p (xs.getD k 0) = true) : xs.all p = true := by
  rw [List.all_eq_true]
  intro x hx
  obtain ⟨k, hk, rfl⟩ := List.getElem_of_mem hx
  have := h k hk
  rw [List.getD_eq_getElem?_getD, List.getElem?_eq_getElem hk] at this
  exact this

def Rmach (xs : List Int) (u : Value) : Prop := ∃ k : Nat, k ≤ xs.length ∧ u = .int .i64 k ∧ ∀ j, j < k → okCap (xs.getD j 0) = true

theorem okCap_cases (x : Int) : (okCap x = true ∧ ¬ x < 1 ∧ ¬ 100000 < x) ∨ (okCap x = false ∧ x < 1) ∨ (okCap x = false ∧ ¬ x < 1 ∧ 100000 < x) := by
  unfold okCap
  by_cases h1 : x < 1
  · exact .inr (.inl ⟨by simp; omega, h1⟩)
  · by_cases h2 : 100000 < x
    · exact .inr (.inr ⟨by simp; omega, h1, h2⟩)
    · exact .inl ⟨by simp; omega, h1, h2⟩

set_option maxRecDepth 100000 in
set_option maxHeartbeats 1000000 in
theorem refMachine_any (w : World) (ao : Option Addr) (n c : Nat) (xs : List Int) (h : Ints w ao n xs) (hn : n ≤ 1048576) :
    Calls Tryz.prog 35 #[.slice ao n c] w fun e w' => e = .returned (.bool (machineP xs)) ∧ w = w' := by
  have Hl := Lib.hid h.len
  go_enter Tryz.func35, Tryz.ntmps35
  go_wp2_with fail
  go_loop [3] (Rmach xs) (fun u3 => n - (intOf u3).toNat)
  case atStart => exact ⟨0, Nat.zero_le _, rfl, fun j hj => absurd hj (by omega)⟩
  case round =>
    obtain ⟨k, hk, rfl, hall⟩ := hrel
    rw [Hl.out] at hk
    have Hall := Lib.hid hall
    clear hall
    by_cases hlt : k < n
    · obtain ⟨g, off, rfl, hg, hc⟩ := h.at hlt
      have Hhit : Hid (∀ x, xs.getD k 0 = x → okCap x = false → machineP xs = false) := by
        intro x hx hf
        unfold machineP
        rw [all_no (k := k) (by rw [Hl.out]; exact hlt) (by rw [hx]; exact hf), Bool.and_false]
      generalize hx : xs.getD k 0 = x at hc
      have Hx := Lib.hid hx
      clear hx
      rcases okCap_cases x with ⟨e, d1, d2⟩ | ⟨e, d1⟩ | ⟨e, d1, d2⟩
      · have E := Lib.hid e
        clear e
        go_wp2_with fail
        go_round
        case rel => exact ⟨k + 1, by rw [Hl.out]; exact hlt, by go_num, fun j hj => (by
          by_cases e : j = k
          · subst e; rw [Hx.out]; exact E.out
          · exact Hall.out j (by omega))⟩
        case measure => simp [intOf] <;> omega
      · have E := Lib.hid (Hhit.out x Hx.out e)
        clear e
        go_wp2_with fail
        go_ret
        exact ⟨by rw [E.out]; rfl, rfl⟩
      · have E := Lib.hid (Hhit.out x Hx.out e)
        clear e
        go_wp2_with fail
        go_ret
        exact ⟨by rw [E.out]; rfl, rfl⟩
    · obtain rfl : k = n := by omega
      have Hv : Hid (machineP xs = (decide (1 ≤ k) && decide (k ≤ 64))) := by
        show _ = _
        unfold machineP
        rw [all_yes (fun j hj => Hall.out j (by rw [Hl.out] at hj; exact hj)), Hl.out, Bool.and_true]
      by_cases h1 : 1 ≤ k
      · by_cases h2 : k ≤ 64
        · have E : Hid (machineP xs = true) := by show _ = _; rw [Hv.out]; simp [h1, h2]
          have q : decide ((k : Int) ≤ 64) = true := decide_eq_true (by omega)
          go_wp2_with fail
          go_ret
          exact ⟨by rw [E.out]; rfl, rfl⟩
        · have E : Hid (machineP xs = false) := by show _ = _; rw [Hv.out]; simp [h2]
          have q : decide ((k : Int) ≤ 64) = false := decide_eq_false (by omega)
          go_wp2_with fail
          go_ret
          exact ⟨by rw [E.out]; rfl, rfl⟩
      · have E : Hid (machineP xs = false) := by show _ = _; rw [Hv.out]; simp [h1]
        go_wp2_with fail
        go_ret
        exact ⟨by rw [E.out]; rfl, rfl⟩

set_option maxRecDepth 100000 in
set_option maxHeartbeats 1000000 in
theorem machine_any (w : World) (ao : Option Addr) (n c : Nat) (xs : List Int) (h : Ints w ao n xs) (hn : n ≤ 1048576) :
    Calls Tryz.prog 39 #[.slice ao n c] w fun e w' => e = .returned (.bool (machineP xs)) ∧ w = w' := by
  have Hl := Lib.hid h.len
  have Hno : Hid (n < 1 ∨ 64 < n → machineP xs = false) := by
    show _ → _ = _
    intro hx
    unfold machineP
    rw [Hl.out]
    rcases hx with hx | hx
    · rw [decide_eq_false (by omega)]; simp
    · rw [decide_eq_false (p := n ≤ 64) (by omega)]; simp
  by_cases h1 : n < 1
  · have E := Lib.hid (Hno.out (.inl h1))
    go_enter Tryz.func39, Tryz.ntmps39
    go_wp2_with fail
    go_ret
    exact ⟨by rw [E.out]; rfl, rfl⟩
  · by_cases h2 : 64 < n
    · have E := Lib.hid (Hno.out (.inr h2))
      go_enter Tryz.func39, Tryz.ntmps39
      go_wp2_with fail
      go_ret
      exact ⟨by rw [E.out]; rfl, rfl⟩
    · have Hyes : Hid (xs.all okCap = machineP xs) := by
        show _ = _
        unfold machineP
        rw [Hl.out, decide_eq_true (p := 1 ≤ n) (by omega), decide_eq_true (p := n ≤ 64) (by omega)]
        simp
      clear Hno
      go_enter Tryz.func39, Tryz.ntmps39
      go_wp2_with fail
      go_loop [15] (Rmach xs) (fun u15 => n - (intOf u15).toNat)
      case atStart => exact ⟨0, Nat.zero_le _, rfl, fun j hj => absurd hj (by omega)⟩
      case round =>
        obtain ⟨k, hk, rfl, hall⟩ := hrel
        rw [Hl.out] at hk
        have Hall := Lib.hid hall
        clear hall
        by_cases hlt : k < n
        · obtain ⟨g, off, rfl, hg, hc⟩ := h.at hlt
          have Hhit : Hid (∀ x, xs.getD k 0 = x → okCap x = false → machineP xs = false) := by
            intro x hx hf
            rw [← Hyes.out]
            exact all_no (k := k) (by rw [Hl.out]; exact hlt) (by rw [hx]; exact hf)
          generalize hx : xs.getD k 0 = x at hc
          have Hx := Lib.hid hx
          clear hx
          rcases okCap_cases x with ⟨e, d1, d2⟩ | ⟨e, d1⟩ | ⟨e, d1, d2⟩
          · have E := Lib.hid e
            clear e
            go_wp2_with fail
            go_round
            case rel => exact ⟨k + 1, by rw [Hl.out]; exact hlt, by go_num, fun j hj => (by
              by_cases e : j = k
              · subst e; rw [Hx.out]; exact E.out
              · exact Hall.out j (by omega))⟩
            case measure => simp [intOf] <;> omega
          · have E := Lib.hid (Hhit.out x Hx.out e)
            clear e
            go_wp2_with fail
            go_ret
            exact ⟨by rw [E.out]; rfl, rfl⟩
          · have E := Lib.hid (Hhit.out x Hx.out e)
            clear e
            go_wp2_with fail
            go_ret
            exact ⟨by rw [E.out]; rfl, rfl⟩
        · obtain rfl : k = n := by omega
          have E : Hid (machineP xs = true) := by
            show _ = _
            rw [← Hyes.out]
            exact all_yes fun j hj => Hall.out j (by rw [Hl.out] at hj; exact hj)
          go_wp2_with fail
          go_ret
          exact ⟨by rw [E.out]; rfl, rfl⟩
end Go.Proofs.YtpfinkdpaomliaaGreat
