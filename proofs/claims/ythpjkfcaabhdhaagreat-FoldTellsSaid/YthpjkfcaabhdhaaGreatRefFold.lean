/-
  The reference's 'Fold' returns the folded text.
-/
import Derived.Test.YthpjkfcaabhdhaaGreatTwo
import Derived.Test.YthpjkfcaabhdhaaGreatWords28
import Derived.Laws.Concat
namespace Go.Proofs.YthpjkfcaabhdhaaGreat
open Go.RowKit

theorem bec_eq (l : List UInt8) (i : Nat) : bec l i = if keptB ((l.getD i 0).toNat : Int) then ([l.getD i 0], 1)
    else if lowB ((l.getD i 0).toNat : Int) then ([UInt8.ofNat (((l.getD i 0).toNat : Int) - 32).toNat], 1) else if twoL l i ≠ [] then (twoL l i, 2) else ([], 1) := by
  unfold bec twoL
  simp only
  by_cases h : i + 1 < l.length
  · rw [if_pos h]
    simp only [h, true_and]
  · rw [if_neg h]
    simp only [h, false_and, if_false, ne_eq, not_true_eq_false]

theorem foldGo_len (l : List UInt8) : ∀ fuel i out apart, out.length ≤ 3 * i → i ≤ l.length → (foldGo l fuel i out apart).length ≤ 3 * l.length := by
  intro fuel
  induction fuel with
  | zero => intro i out apart h hi; rw [foldGo]; omega
  | succ fuel ih =>
    intro i out apart h hi
    rw [foldGo]
    by_cases hlt : i < l.length
    · obtain ⟨h1, h2, h3⟩ := bec_len l i hlt
      rw [if_pos hlt]
      by_cases h0 : (bec l i).1 = []
      · rw [if_pos h0]
        exact ih _ _ _ (by omega) h3
      · rw [if_neg h0]
        refine ih _ _ _ ?_ h3
        rw [List.length_append]
        split
        · simp; omega
        · omega
    · rw [if_neg hlt]; omega
theorem foldL_len (l : List UInt8) : (foldL l).length ≤ 3 * l.length := foldGo_len l _ _ _ _ (by simp) (Nat.zero_le _)

/-- What the first k words, joined, are. -/
def joinK (l : List UInt8) (k : Nat) : List UInt8 := joinL ((wordsL l).take k)
theorem joinK_next (l : List UInt8) (k : Nat) (hk : k < (wordsL l).length) : joinK l (k + 1) = (if 0 < k then joinK l k ++ [32] else joinK l k) ++ (wordsL l).getD k [] := by
  unfold joinK
  rw [List.take_add_one, List.getElem?_eq_getElem hk, List.getD_eq_getElem?_getD, List.getElem?_eq_getElem hk]
  by_cases h0 : 0 < k
  · rw [if_pos h0]
    have hne : (wordsL l).take k ≠ [] := fun e => by
      have h := congrArg List.length e
      rw [List.length_take, List.length_nil] at h
      omega
    show joinL (_ ++ [_]) = _
    rw [joinL_snoc _ _ hne]
    simp
  · obtain rfl : k = 0 := by omega
    simp [joinL]
theorem joinL_take_le (ws : List (List UInt8)) (k : Nat) : (joinL (ws.take k)).length ≤ (joinL ws).length := by
  cases ws with
  | nil => simp
  | cons a r =>
    cases k with
    | zero => simp [joinL]
    | succ k =>
      simp only [List.take_succ_cons, joinL, List.length_append]
      have h : r.flatMap (fun x => 32 :: x) = (r.take k).flatMap (fun x => 32 :: x) ++ (r.drop k).flatMap (fun x => 32 :: x) := by
        rw [← List.flatMap_append, List.take_append_drop]
      rw [h, List.length_append]
      omega
theorem joinK_le (l : List UInt8) (k : Nat) : (joinK l k).length ≤ (joinL (wordsL l)).length := joinL_take_le _ _
theorem word_le (l : List UInt8) (k : Nat) (hk : k < (wordsL l).length) : ((wordsL l).getD k []).length ≤ (joinL (wordsL l)).length := by
  have h := joinK_le l (k + 1)
  rw [joinK_next l k hk, List.length_append] at h
  omega

def piece (l : List UInt8) (i : Nat) : List UInt8 := gap (bec l i).1
theorem piece_le (l : List UInt8) (i : Nat) (hi : i < l.length) : (piece l i).length ≤ 2 := by
  unfold piece gap
  split
  · simp
  · exact (bec_len l i hi).1
def Rr1 (s : ByteArray) (w : World) (u3 u4 : Value) (wr : World) : Prop :=
  ∃ (i fuel : Nat) (lb : ByteArray), i ≤ s.size ∧ s.size - i ≤ fuel ∧ lb.size ≤ 2 * i ∧ lb.data.toList ++ (pieces s.data.toList fuel i).flatMap gap = refLong s.data.toList ∧
    u3 = .string lb ∧ u4 = .int .i64 i ∧ Below w.heap.size w wr
def Rr2 (L : List UInt8) (ao : Option Addr) (n cap : Nat) (w : World) (u7 u8 : Value) (wr : World) : Prop :=
  ∃ (k : Nat) (ob : ByteArray), k ≤ n ∧ u7 = .string ob ∧ u8 = .int .i64 k ∧ ob.data.toList = joinK L k ∧ Strs wr ao n cap (wordsB L) ∧ Below w.heap.size w wr

theorem add_run (w : World) (a b : ByteArray) (ha : a.size ≤ 4000000) (hb : b.size ≤ 4000000) : (binOp .add 9 (.string a) (.string b)).run Tryz.prog w = .ok (.string (a ++ b)) w := by
  have ha' : (a.size : Int) ≤ 8388608 := by omega
  have hb' : (b.size : Int) ≤ 8388608 := by omega
  simp [binOp, run_string_add, ha', hb']
theorem app_list (a b : ByteArray) : (a ++ b).data.toList = a.data.toList ++ b.data.toList := by simp [ByteArray.data_append]
theorem size_list (a : ByteArray) : a.size = a.data.toList.length := by simp

set_option maxRecDepth 1000000 in
set_option maxHeartbeats 2000000 in
theorem refFold_any (w : World) (s : ByteArray) (hs : s.size ≤ 100000) :
    Calls Tryz.prog 26 #[.string s] w fun e w' => e = .returned (.string ⟨(foldL s.data.toList).toArray⟩) ∧ Below w.heap.size w w' := by
  have Hsz : Hid (s.data.toList.length = s.size) := by show _ = _; simp
  have hb0 := Below.refl w.heap.size w
  go_enter Tryz.func26, Tryz.ntmps26
  go_wp2_with fail
  go_loopw [3, 4] (Rr1 s w) (fun _ u4 _ => s.size - (intOf u4).toNat)
  case atStart => exact ⟨0, s.data.toList.length, ByteArray.empty, by omega, by rw [Hsz.out]; omega, by simp, rfl, rfl, rfl, hb0⟩
  case round =>
    clear hb0
    obtain ⟨i, fuel, lb, hi, hfuel, hlb, hgo, rfl, rfl, hb⟩ := hrel
    have Hgo := Lib.hid hgo
    clear hgo
    have hB := hb.size
    by_cases hlt : i < s.size
    · obtain ⟨fuel, rfl⟩ : ∃ f, fuel = f + 1 := ⟨fuel - 1, by omega⟩
      have Hun : Hid ((lb.data.toList ++ piece s.data.toList i) ++ (pieces s.data.toList fuel (i + (bec s.data.toList i).2)).flatMap gap = refLong s.data.toList) := by
        have := Hgo.out
        rw [pieces, if_pos (by rw [Hsz.out]; exact hlt), List.flatMap_cons, ← List.append_assoc] at this
        exact this
      clear Hgo
      have Hbec := Lib.hid (bec_eq s.data.toList i)
      have Hlen : Hid ((bec s.data.toList i).1.length ≤ 2 ∧ 1 ≤ (bec s.data.toList i).2 ∧ i + (bec s.data.toList i).2 ≤ s.size) := by
        have := bec_len s.data.toList i (by rw [Hsz.out]; exact hlt)
        rw [Hsz.out] at this
        exact this
      have Hg : Hid (s.data.toList.getD i 0 = s[i]) := getD_byte s i hlt
      have Htwo := Lib.hid (Two_any wr s i hlt (by omega))
      obtain ⟨tb, htb⟩ : ∃ tb : ByteArray, tb = ⟨(twoL s.data.toList i).toArray⟩ := ⟨_, rfl⟩
      have Htb := Lib.hid htb
      have Htwo : Hid (Calls Tryz.prog 69 #[.string s, .int .i64 i] wr fun e w' => e = .returned (.string tb) ∧ wr = w') := by rw [Htb.out]; exact Htwo.out
      clear htb
      have hbd := byte_bd s[i]
      -- whatever the piece: the round's end
      have Hend : ∀ pb : ByteArray, ∀ m : Nat, bec s.data.toList i = (piece s.data.toList i, m) ∨ bec s.data.toList i = ([], m) → pb.data.toList = piece s.data.toList i →
          i + m ≤ s.size ∧ 1 ≤ m ∧ pb.size ≤ 2 ∧ (lb ++ pb).size ≤ 2 * (i + m) ∧ (lb ++ pb).data.toList ++ (pieces s.data.toList fuel (i + m)).flatMap gap = refLong s.data.toList := by
        intro pb m hm hpb
        have hm2 : (bec s.data.toList i).2 = m := by rcases hm with h | h <;> rw [h]
        have h3 := Hlen.out
        rw [hm2] at h3
        have h4 := piece_le s.data.toList i (by rw [Hsz.out]; exact hlt)
        rw [← hpb] at h4
        have h5 := size_list pb
        have h6 := Hun.out
        rw [hm2, ← hpb] at h6
        refine ⟨h3.2.2, h3.2.1, by omega, ?_, by rw [app_list]; exact h6⟩
        rw [ByteArray.size_append]
        omega
      have HEnd := Lib.hid Hend
      clear Hend
      cases hk : keptB ((s[i]).toNat : Int) with
      | true =>
        have hb1 : bec s.data.toList i = ([s[i]], 1) := by rw [Hbec.out, Hg.out, hk]; rfl
        have hpc : piece s.data.toList i = [s[i]] := by unfold piece; rw [hb1]; rfl
        obtain ⟨pb, hpb⟩ : ∃ pb : ByteArray, pb = ⟨[s[i]].toArray⟩ := ⟨_, rfl⟩
        obtain ⟨q1, q2, q3, q4, q5⟩ := HEnd.out pb 1 (.inl (by rw [hb1, hpc])) (by rw [hpb, hpc])
        have hsl : ∀ w, (Instr.slice 9 (.string s) (some (.int .i64 (i : Int))) (some (.int .i64 ((i : Int) + 1))) none).run Tryz.prog w = .ok (.string pb) w := fun w => by
          rw [run_slice_string w 9 s .i64 .i64 i ((i : Int) + 1) Tryz.underlying9 (by omega) (by omega) (by omega)]
          have e : ((i : Int) + 1).toNat = i + 1 := by omega
          rw [e, Int.toNat_natCast, extract_one s i hlt, hpb]
        have hadd := fun w => add_run w lb pb (by omega) (by omega)
        have Q5 := Lib.hid q5
        clear hb1 hpc hpb q5 Hun Hbec
        have hk70 := kept_any wr ((s[i]).toNat : Int)
        rw [hk] at hk70
        have Hk70 := Lib.hid hk70
        clear hk70 hk
        go_wp2_with (first | (go_at_call 69; refine Htwo.out.mono ?_; rintro e w' ⟨rfl, rfl⟩) | (go_at_call 70; refine Hk70.out.mono ?_; rintro e w' ⟨rfl, rfl⟩))
        go_roundw
        case rel => exact ⟨i + 1, fuel, lb ++ pb, q1, by omega, q4, Q5.out, rfl, by go_num, hb⟩
        case measure => simp [intOf]; omega
      | false =>
        have hk70 := kept_any wr ((s[i]).toNat : Int)
        rw [hk] at hk70
        have Hk70 := Lib.hid hk70
        clear hk70
        cases hl : lowB ((s[i]).toNat : Int) with
        | true =>
          have hb1 : bec s.data.toList i = ([UInt8.ofNat (((s[i]).toNat : Int) - 32).toNat], 1) := by rw [Hbec.out, Hg.out, hk, hl]; rfl
          have hpc : piece s.data.toList i = [UInt8.ofNat (((s[i]).toNat : Int) - 32).toNat] := by unfold piece; rw [hb1]; rfl
          obtain ⟨pb, hpb⟩ : ∃ pb : ByteArray, pb = ⟨[UInt8.ofNat (((s[i]).toNat : Int) - 32).toNat].toArray⟩ := ⟨_, rfl⟩
          obtain ⟨q1, q2, q3, q4, q5⟩ := HEnd.out pb 1 (.inl (by rw [hb1, hpc])) (by rw [hpb, hpc])
          unfold lowB at hl
          simp only [Bool.and_eq_true, decide_eq_true_eq] at hl
          obtain ⟨l1, l2⟩ := hl
          have d1 : decide (97 ≤ ((s[i]).toNat : Int)) = true := decide_eq_true l1
          have d2 : decide (((s[i]).toNat : Int) ≤ 122) = true := decide_eq_true l2
          have hcv : (Go.convert 81 9 (.slice (some ⟨wr.heap.size, 0, none⟩) 1 1)).run Tryz.prog (wr.alloc (.cells #[.int .u8 (((s[i]).toNat : Int) - 32)] 5)) = .ok (.string pb) (wr.alloc (.cells #[.int .u8 (((s[i]).toNat : Int) - 32)] 5)) := by
            rw [hpb]
            refine run_convert_bytes_back (P := Tryz.prog) _ 81 9 5 ⟨wr.heap.size, 0, none⟩ 1 [UInt8.ofNat (((s[i]).toNat : Int) - 32).toNat] Tryz.underlying81 Tryz.underlying5 Tryz.underlying9 ?_
            intro j hj
            obtain rfl : j = 0 := by simpa using hj
            have e : ((UInt8.ofNat (((s[i]).toNat : Int) - 32).toNat).toNat : Int) = ((s[i]).toNat : Int) - 32 := by
              rw [UInt8.toNat_ofNat']
              omega
            show _ = some (Value.int .u8 ((UInt8.ofNat (((s[i]).toNat : Int) - 32).toNat).toNat : Int))
            rw [e]
            exact cell_one_at _ _ _ _ rfl 0 _ rfl
          have hadd := fun w => add_run w lb pb (by omega) (by omega)
          have Q5 := Lib.hid q5
          clear hb1 hpc hpb q5 Hun Hbec hk
          go_wp2_with (first | (go_at_call 69; refine Htwo.out.mono ?_; rintro e w' ⟨rfl, rfl⟩) | (go_at_call 70; refine Hk70.out.mono ?_; rintro e w' ⟨rfl, rfl⟩))
          go_roundw
          case rel => exact ⟨i + 1, fuel, lb ++ pb, q1, by omega, q4, Q5.out, rfl, by go_num, hb.alloc hB _⟩
          case measure => simp [intOf]; omega
        | false =>
          obtain ⟨_, _, hr⟩ := other_facts hk hl
          have Hk := Lib.hid hk
          have Hl := Lib.hid hl
          clear hk hl
          have hd : ∃ b7 b8 : Bool, decide (97 ≤ ((s[i]).toNat : Int)) = b7 ∧ decide (((s[i]).toNat : Int) ≤ 122) = b8 ∧ (b7 = false ∨ (b7 = true ∧ b8 = false)) :=
            ⟨_, _, rfl, rfl, by simp only [decide_eq_false_iff_not, decide_eq_true_eq]; omega⟩
          obtain ⟨b7, b8, d7, d8, hb78⟩ := hd
          clear hr
          by_cases h2 : twoL s.data.toList i = []
          · have hb1 : bec s.data.toList i = ([], 1) := by rw [Hbec.out, Hg.out, Hk.out, Hl.out, h2]; rfl
            have hpc : piece s.data.toList i = [32] := by unfold piece; rw [hb1]; rfl
            obtain ⟨pb, hpb⟩ : ∃ pb : ByteArray, pb = ⟨#[32]⟩ := ⟨_, rfl⟩
            obtain ⟨q1, q2, q3, q4, q5⟩ := HEnd.out pb 1 (.inr hb1) (by rw [hpb, hpc])
            have hadd := fun w => add_run w lb pb (by omega) (by omega)
            rw [hpb] at hadd q4 q5
            have g0 : tb.toList = [] := by rw [Htb.out, ByteArray.toList_eq]; exact h2
            have Q5 := Lib.hid q5
            have g1 : tb.toList.isEmpty = true := by rw [g0]; rfl
            clear hb1 hpc hpb q5 Hun Hbec h2
            rcases hb78 with rfl | ⟨rfl, rfl⟩
            all_goals
              go_wp2_with (first | (go_at_call 69; refine Htwo.out.mono ?_; rintro e w' ⟨rfl, rfl⟩) | (go_at_call 70; refine Hk70.out.mono ?_; rintro e w' ⟨rfl, rfl⟩))
              go_roundw
              case rel => exact ⟨i + 1, fuel, lb ++ ⟨#[32]⟩, q1, by omega, q4, Q5.out, rfl, by go_num, hb⟩
              case measure => simp [intOf]; omega
          · have hb1 : bec s.data.toList i = (twoL s.data.toList i, 2) := by rw [Hbec.out, Hg.out, Hk.out, Hl.out]; simp [h2]
            have hpc : piece s.data.toList i = twoL s.data.toList i := by unfold piece gap; rw [hb1, if_neg h2]
            obtain ⟨q1, q2, q3, q4, q5⟩ := HEnd.out tb 2 (.inl (by rw [hb1, hpc])) (by rw [Htb.out, hpc])
            have hadd := fun w => add_run w lb tb (by omega) (by omega)
            have g0 : ¬ tb.toList = [] := by rw [Htb.out, ByteArray.toList_eq]; exact h2
            have Q5 := Lib.hid q5
            have g1 : tb.toList.isEmpty = false := by rw [List.isEmpty_eq_false_iff]; exact g0
            clear hb1 hpc q5 Hun Hbec h2
            rcases hb78 with rfl | ⟨rfl, rfl⟩
            all_goals
              go_wp2_with (first | (go_at_call 69; refine Htwo.out.mono ?_; rintro e w' ⟨rfl, rfl⟩) | (go_at_call 70; refine Hk70.out.mono ?_; rintro e w' ⟨rfl, rfl⟩))
              go_roundw
              case rel => exact ⟨i + 2, fuel, lb ++ tb, q1, by omega, q4, Q5.out, rfl, by go_num, hb⟩
              case measure => simp [intOf]; omega
    · obtain rfl : i = s.size := by omega
      have hfin : lb.data.toList = refLong s.data.toList := by
        have := Hgo.out
        have h0 : pieces s.data.toList fuel s.size = [] := by
          cases fuel with
          | zero => rfl
          | succ fuel => rw [pieces, if_neg (by rw [Hsz.out]; omega)]
        rw [h0] at this
        simpa using this
      have Hjoin : Hid (joinL (wordsL lb.data.toList) = foldL s.data.toList) := by show _ = _; rw [hfin, ← fold_law]
      have Hjl : Hid ((joinL (wordsL lb.data.toList)).length ≤ 300000) := by
        show _ ≤ _
        rw [Hjoin.out]
        have := foldL_len s.data.toList
        rw [Hsz.out] at this
        omega
      clear Hgo hfin
      go_wp2_with fail
      refine (refWords_any wr lb (by omega)).mono ?_
      rintro e w1 ⟨ao, n, cap, rfl, hown, hb1⟩
      have hc1 : Below w.heap.size w w1 := hb.trans (hb1.mono hB)
      have hst := hown.strs
      have hnb : n ≤ 200001 := by
        have h1 := hst.len
        unfold wordsB wordsL at h1
        rw [List.length_map] at h1
        have h2 := wAt_len lb.data.toList (lb.data.toList.length + 1) (Nat.le_refl _)
        rw [← size_list] at h2
        rw [← size_list] at h1
        omega
      generalize lb.data.toList = L at hst Hjoin Hjl
      clear hown hb hb1
      go_wp2_with fail
      go_loopw [7, 8] (Rr2 L ao n cap w) (fun _ u8 _ => n - (intOf u8).toNat)
      case atStart => exact ⟨0, ByteArray.empty, Nat.zero_le _, rfl, rfl, rfl, hst, hc1⟩
      case round =>
        clear hst hc1
        obtain ⟨k, ob, hk, rfl, rfl, hob, hst, hb⟩ := hrel
        have Hob := Lib.hid hob
        have Hn : Hid ((wordsL L).length = n) := by have := hst.len; unfold wordsB at this; rw [List.length_map] at this; exact this
        have hobs : ob.size ≤ 300000 := by
          have h1 := joinK_le L k
          have h2 := Hjl.out
          rw [size_list, hob]
          omega
        clear hob
        by_cases hkn : k < n
        · obtain ⟨g, rfl, _, hg⟩ := hst.sl.some_ (by have := hst.sl.le; omega)
          have Hnext := Lib.hid (joinK_next L k (by rw [Hn.out]; exact hkn))
          have Hwl := Lib.hid (word_le L k (by rw [Hn.out]; exact hkn))
          have hcell : wr.cell? ⟨g, k, none⟩ = some (.string (toB ((wordsL L).getD k []))) := by
            rw [hst.sl.cell (i := k) (by omega)]
            unfold wordsB
            have : k < (wordsL L).length := by rw [Hn.out]; exact hkn
            simp [List.getD_eq_getElem?_getD, this]
          obtain ⟨pb, hpb⟩ : ∃ pb : ByteArray, pb = toB ((wordsL L).getD k []) := ⟨_, rfl⟩
          rw [← hpb] at hcell
          have Hpb : Hid (pb.data.toList = (wordsL L).getD k []) := by show _ = _; rw [hpb]; rfl
          have hpbs : pb.size ≤ 300000 := by
            have h1 := Hwl.out
            have h2 := Hjl.out
            rw [size_list, Hpb.out]
            omega
          clear hpb
          by_cases h0 : 0 < k
          · have dk : decide ((0 : Int) < (k : Int)) = true := decide_eq_true (by omega)
            have hadd1 := fun w => add_run w ob ⟨#[32]⟩ (by omega) (by decide)
            have hadd2 := fun w => add_run w (ob ++ ⟨#[32]⟩) pb (by rw [ByteArray.size_append]; show ob.size + 1 ≤ _; omega) (by omega)
            have Hj : Hid ((ob ++ ⟨#[32]⟩ ++ pb).data.toList = joinK L (k + 1)) := by show _ = _; rw [app_list, app_list, Hob.out, Hpb.out, Hnext.out, if_pos h0]
            go_wp2_with fail
            go_roundw
            case rel => exact ⟨k + 1, ob ++ ⟨#[32]⟩ ++ pb, hkn, rfl, by go_num, Hj.out, hst, hb⟩
            case measure => simp [intOf]; omega
          · have dk : decide ((0 : Int) < (k : Int)) = false := decide_eq_false (by omega)
            have hadd2 := fun w => add_run w ob pb (by omega) (by omega)
            have Hj : Hid ((ob ++ pb).data.toList = joinK L (k + 1)) := by show _ = _; rw [app_list, Hob.out, Hpb.out, Hnext.out, if_neg h0]
            go_wp2_with fail
            go_roundw
            case rel => exact ⟨k + 1, ob ++ pb, hkn, rfl, by go_num, Hj.out, hst, hb⟩
            case measure => simp [intOf]; omega
        · obtain rfl : k = n := by omega
          have Hfin : Hid (ob = ⟨(foldL s.data.toList).toArray⟩) := by
            show _ = _
            apply ByteArray.ext
            apply Array.toList_inj.1
            rw [Hob.out]
            unfold joinK
            rw [List.take_of_length_le (by rw [Hn.out]; exact Nat.le_refl _), Hjoin.out]
          go_wp2_with fail
          go_ret
          rw [Hfin.out]
          exact ⟨rfl, hb⟩
end Go.Proofs.YthpjkfcaabhdhaaGreat
