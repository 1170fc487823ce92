/-
  The reference's Kinds and Same.
-/
import Derived.Test.YthpjkfcaabhdhaaGreatRefFns
namespace Go.Proofs.YthpjkfcaabhdhaaGreat
open Go.RowKit

def pw (n : Nat) : Int := 2 ^ n
def hasK (word : ByteArray) (kind : Int) (n : Nat) : Bool := (tab.take n).any (refOf kind word)
def rk (word : ByteArray) : Nat → Int
  | 0 => 0
  | k + 1 => rk word k + if hasK word ((k : Int) + 1) 40 then pw (k + 1) else 0
theorem pw_succ (n : Nat) : pw (n + 1) = 2 * pw n := by unfold pw; rw [Int.pow_succ]; omega
theorem rk_bd (word : ByteArray) : ∀ k, 0 ≤ rk word k ∧ rk word k + 2 ≤ pw (k + 1) := by
  intro k
  induction k with
  | zero => exact ⟨Int.le_refl _, by show (0 : Int) + 2 ≤ pw 1; decide⟩
  | succ k ih =>
    have h1 := pw_succ (k + 1)
    have h2 := pw_succ k
    simp only [rk]
    split <;> omega
theorem pw_bd (k : Nat) (hk : k ≤ 5) : 1 ≤ pw k ∧ pw k ≤ 32 := by
  match k, hk with
  | 0, _ => decide
  | 1, _ => decide
  | 2, _ => decide
  | 3, _ => decide
  | 4, _ => decide
  | 5, _ => decide
theorem hasK_next (word : ByteArray) (kind : Int) (n : Nat) (hn : n < 40) : hasK word kind (n + 1) = (hasK word kind n || refOf kind word (tab.getD n dflt)) := by
  unfold hasK
  rw [take_next n hn, List.any_append]
  simp only [List.any_cons, List.any_nil, Bool.or_false]

def Rrk (word : ByteArray) (g : Nat) (w : World) (u4 u5 u6 : Value) (wr : World) : Prop :=
  ∃ k : Nat, k ≤ 5 ∧ u6 = .int .u8 ((k : Int) + 1) ∧ u4 = .int .u8 (rk word k) ∧ u5 = .int .u8 (pw (k + 1)) ∧ Below w.heap.size w wr ∧ RefTab wr g
def Rrki (word : ByteArray) (k : Nat) (g : Nat) (w : World) (u7 u8 : Value) (wr : World) : Prop :=
  ∃ i : Nat, i ≤ 40 ∧ u8 = .int .i64 i ∧ u7 = .bool (hasK word ((k : Int) + 1) i) ∧ Below w.heap.size w wr ∧ RefTab wr g

set_option maxRecDepth 1000000 in
set_option maxHeartbeats 1000000 in
theorem refKinds_any (w : World) (word : ByteArray) :
    Calls Tryz.prog 18 #[.string word] w fun e w' => e = .returned (.int .u8 (rk word 5)) ∧ Below w.heap.size w w' := by
  go_enter Tryz.func18, Tryz.ntmps18
  go_wp2_with fail
  refine (Table_tab _).mono ?_
  rintro e w1 ⟨rfl, hb1, ht1⟩
  go_wp2_with fail
  go_loopw [4, 5, 6] (Rrk word w.heap.size w) (fun _ _ u6 _ => 6 - (intOf u6).toNat)
  case atStart => exact ⟨0, by omega, rfl, rfl, rfl, hb1, ht1⟩
  case round =>
    clear hb1 ht1
    obtain ⟨k, hk5, rfl, rfl, rfl, hb, ht⟩ := hrel
    obtain ⟨wo, rfl⟩ : ∃ wo : World, wo = wr := ⟨_, rfl⟩
    have hbd := rk_bd word k
    by_cases hlt : k < 5
    · have hpb := pw_bd (k + 1) (by omega)
      have hp2 := Lib.hid (pw_succ (k + 1))
      have hrk : Hid (rk word (k + 1) = rk word k + if hasK word ((k : Int) + 1) 40 then pw (k + 1) else 0) := rfl
      generalize rk word k = acc at *
      generalize pw (k + 1) = p at *
      have hd5 : decide ((k : Int) + 1 ≤ 5) = true := decide_eq_true (by omega)
      go_wp2_with fail
      go_loopw [7, 8] (Rrki word k w.heap.size w) (fun _ u8 _ => 40 - (intOf u8).toNat)
      case atStart => exact ⟨0, by omega, rfl, rfl, hb, ht⟩
      case round =>
        clear hb ht
        obtain ⟨i, hi, rfl, rfl, hb, ht⟩ := hrel
        by_cases hil : i < 40
        · have hnx := Lib.hid (hasK_next word ((k : Int) + 1) i hil)
          generalize hr : tab.getD i dflt = r
          obtain ⟨r1, r2, r3⟩ := r
          obtain ⟨hc1, hc2, hc3⟩ := ht.at_ hil hr
          have Hr := Lib.hid hr
          clear hr
          cases hh : hasK word ((k : Int) + 1) i with
          | true =>
            have hst : Hid (hasK word ((k : Int) + 1) (i + 1) = true) := by rw [Hid, hnx.out, hh]; rfl
            go_wp2_with fail
            go_roundw
            case rel => exact ⟨i + 1, by omega, by go_num, by rw [hst.out], hb, ht⟩
            case measure => simp [intOf]; omega
          | false =>
            have hst : Hid (hasK word ((k : Int) + 1) (i + 1) = refOf ((k : Int) + 1) word (r1, r2, r3)) := by rw [Hid, hnx.out, hh, Hr.out]; rfl
            go_wp2_with fail
            refine (refOf_any _ ((k : Int) + 1) word r1 r2 r3).mono ?_
            rintro e w2 ⟨rfl, hb2⟩
            have ht2 := ht.below hb2
            have hbw2 : Below w.heap.size w w2 := hb.trans (hb2.mono hb.size)
            go_wp2_with fail
            go_roundw
            case rel => exact ⟨i + 1, by omega, by go_num, by rw [hst.out], hbw2, ht2⟩
            case measure => simp [intOf]; omega
        · obtain rfl : i = 40 := by omega
          cases hh : hasK word ((k : Int) + 1) 40 with
          | true =>
            have hst : Hid (rk word (k + 1) = acc + p) := by rw [Hid, hrk.out, hh]; rfl
            go_wp2_with fail
            go_roundw
            case rel => exact ⟨k + 1, by omega, by go_num, by rw [hst.out], by rw [hp2.out], hb, ht⟩
            case measure => simp [intOf]; omega
          | false =>
            have hst : Hid (rk word (k + 1) = acc) := by rw [Hid, hrk.out, hh]; simp
            go_wp2_with fail
            go_roundw
            case rel => exact ⟨k + 1, by omega, by go_num, by rw [hst.out], by rw [hp2.out], hb, ht⟩
            case measure => simp [intOf]; omega
    · obtain rfl : k = 5 := by omega
      go_wp2_with fail
      go_ret
      exact ⟨rfl, hb⟩

/-- What the reference's Same returns. -/
def refSameW (kind : Int) (a b : ByteArray) : Bool := sEq a b || (refLongsTo kind a 40).any fun x => inL (refLongsTo kind b 40) x

set_option maxRecDepth 1000000 in
set_option maxHeartbeats 1000000 in
theorem refSame_any (w : World) (kind : Int) (a b : ByteArray) :
    Calls Tryz.prog 19 #[.int .u8 kind, .string a, .string b] w fun e w' => e = .returned (.bool (refSameW kind a b)) ∧ Below w.heap.size w w' := by
  cases hab : (a.toList == b.toList) with
  | true =>
    have hv : Hid (refSameW kind a b = true) := by show refSameW kind a b = true; unfold refSameW sEq; rw [hab]; rfl
    go_enter Tryz.func19, Tryz.ntmps19
    go_wp2_with fail
    go_ret
    rw [hv.out]
    exact ⟨rfl, Below.refl _ _⟩
  | false =>
    have hv : Hid (refSameW kind a b = (refLongsTo kind a 40).any fun x => inL (refLongsTo kind b 40) x) := by show refSameW kind a b = _; unfold refSameW sEq; rw [hab]; rfl
    go_enter Tryz.func19, Tryz.ntmps19
    go_wp2_with fail
    refine (refLongs_any _ kind a).mono ?_
    rintro e w1 ⟨ax, nx, cx, rfl, ⟨hx, _⟩, hb1⟩
    go_wp2_with fail
    refine (refLongs_any _ kind b).mono ?_
    rintro e w2 ⟨ay, ny, cy, rfl, ⟨hy, _⟩, hb2⟩
    have hx2 := hx.below hb2
    have hb : Below w.heap.size w w2 := hb1.trans (hb2.mono hb1.size)
    have hx40 := refLongsTo_le kind a 40 (by omega)
    have hy40 := refLongsTo_le kind b 40 (by omega)
    obtain rfl := hx2.len.symm
    obtain rfl := hy.len.symm
    clear hx hb1 hb2
    generalize refLongsTo kind a 40 = xs at *
    generalize refLongsTo kind b 40 = ys at *
    go_wp2_with fail
    go_loopw [9] (Rs xs ys ax ay cx cy w) (fun u9 _ => xs.length - (intOf u9).toNat)
    case atStart => exact ⟨0, by omega, rfl, fun j hj => absurd hj (by omega), hb, hx2, hy⟩
    case round =>
      clear hb hx2 hy
      obtain ⟨k, hk, rfl, hno, hb, hx, hy⟩ := hrel
      have Hno := Lib.hid hno
      clear hno
      by_cases hlt : k < xs.length
      · obtain ⟨g, rfl, _, _⟩ := hx.sl.some_ (by have := hx.sl.le; omega)
        have hc : wr.cell? ⟨g, k, none⟩ = some (.string (xs.getD k ByteArray.empty)) := hx.sl.cell (i := k) (by omega)
        generalize hxk : xs.getD k ByteArray.empty = x at hc
        have Hx := Lib.hid hxk
        clear hxk
        go_wp2_with fail
        refine (in_any _ ay ys.length cy ys x hy (by omega)).mono ?_
        rintro e w' ⟨rfl, rfl⟩
        cases hq : inL ys x with
        | true =>
          have hany : Hid ((xs.any fun x => inL ys x) = true) := by
            show (xs.any fun x => inL ys x) = true
            rw [List.any_eq_true]
            exact ⟨x, by rw [← Hx.out, List.getD_eq_getElem?_getD, List.getElem?_eq_getElem hlt]; exact List.getElem_mem hlt, hq⟩
          go_wp2_with fail
          go_ret
          rw [hv.out, hany.out]
          exact ⟨rfl, hb⟩
        | false =>
          go_wp2_with fail
          go_roundw
          case rel => exact ⟨k + 1, hlt, by go_num, fun j hj => (by
            by_cases e : j = k
            · subst e; rw [Hx.out]; exact hq
            · exact Hno.out j (by omega)), hb, hx, hy⟩
          case measure => simp [intOf]; omega
      · obtain rfl : k = xs.length := by omega
        have hany : Hid ((xs.any fun x => inL ys x) = false) := by
          show (xs.any fun x => inL ys x) = false
          rw [List.any_eq_false]
          intro x hx
          obtain ⟨j, hj, rfl⟩ := List.mem_iff_getElem.1 hx
          have := Hno.out j hj
          rw [List.getD_eq_getElem?_getD, List.getElem?_eq_getElem hj] at this
          simpa using this
        go_wp2_with fail
        go_ret
        rw [hv.out, hany.out]
        exact ⟨rfl, hb⟩
end Go.Proofs.YthpjkfcaabhdhaaGreat
