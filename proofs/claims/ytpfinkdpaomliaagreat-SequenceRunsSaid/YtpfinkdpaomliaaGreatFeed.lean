/-
  'feedable' of the package: the error of the first item that has no seat, or one too many for its stop.
-/
import Derived.Test.YtpfinkdpaomliaaGreatAlong
import Derived.Test.YtpfinkdpaomliaaGreatCheckLaw
namespace Go.Proofs.YtpfinkdpaomliaaGreat
open Go.RowKit Go.Maps

def hasB (l : List Seat) (x : Int) : Bool := l.any fun s => Seat.stop s == x
/-- The seats, as a map from their stops holds them. -/
def seatG (l : List Seat) : Int → Option Value := fun x => if hasB l x then some (seatV (seatFor l x)) else none
def cntTo (items : List Int) (i : Nat) (x : Int) : Nat := ((items.take i).filter fun y => y == x).length
def fedG (items : List Int) (i : Nat) : Int → Option Value := fun x => if cntTo items i x = 0 then none else some (.int .i64 (cntTo items i x : Int))
def feedAt (l : List Seat) (items : List Int) (i : Nat) : Int :=
  if hasB l (items.getD i 0) = false then 6 else if Seat.vol (seatFor l (items.getD i 0)) ≤ (cntTo items i (items.getD i 0) : Int) then 4 else 0
def feedP (l : List Seat) (items : List Int) : Int := match (List.range items.length).find? (fun i => decide (feedAt l items i ≠ 0)) with
  | some i => feedAt l items i
  | none => 0
theorem feed_hit {l : List Seat} {items : List Int} {i : Nat} {e : Int} (hi : i < items.length) (he : feedAt l items i = e) (h0 : e ≠ 0) (hno : ∀ j, j < i → feedAt l items j = 0) : feedP l items = e := by
  unfold feedP
  rw [find_some hi (by rw [he]; exact decide_eq_true h0) (fun j hj => by rw [hno j hj]; rfl)]
  exact he
theorem feed_none {l : List Seat} {items : List Int} (hno : ∀ j, j < items.length → feedAt l items j = 0) : feedP l items = 0 := by
  unfold feedP
  rw [find_none (fun j hj => by rw [hno j hj]; rfl)]
theorem cnt_next (items : List Int) (i : Nat) (hi : i < items.length) (x : Int) : cntTo items (i + 1) x = cntTo items i x + if items.getD i 0 = x then 1 else 0 := by
  unfold cntTo
  rw [take_snoc' items 0 i hi, List.filter_append, List.length_append]
  by_cases h : items.getD i 0 = x
  · rw [h, if_pos rfl, List.filter_cons, if_pos (by simp)]; rfl
  · rw [if_neg h, List.filter_cons, if_neg (by simpa using h)]; rfl
theorem cnt_le (items : List Int) (i : Nat) (x : Int) : cntTo items i x ≤ items.length := by
  unfold cntTo
  exact Nat.le_trans (List.length_filter_le _ _) (by rw [List.length_take]; omega)
theorem fedG_look (items : List Int) (i : Nat) (x : Int) : (fedG items i x).getD (.int .i64 0) = .int .i64 (cntTo items i x : Int) := by
  unfold fedG
  by_cases h : cntTo items i x = 0
  · rw [if_pos h, h]; rfl
  · rw [if_neg h]; rfl
theorem fedG_put (items : List Int) (i : Nat) (hi : i < items.length) (x : Int) (hx : items.getD i 0 = x) : ∀ y, putI (fedG items i) x (.int .i64 ((cntTo items i x : Int) + 1)) y = fedG items (i + 1) y := by
  intro y
  unfold putI fedG
  rw [cnt_next items i hi]
  by_cases e : y = x
  · subst e
    rw [if_pos rfl, hx, if_pos rfl, if_neg (by omega)]
    congr 2
  · have hne : ¬ x = y := fun h => e h.symm
    rw [if_neg e, hx]
    simp only [if_neg hne, Nat.add_zero]
theorem zeroS (w : World) : (zeroValue 64).run Tryz.prog w = .ok (.agg #[.int .i64 0, .int .i64 0, .int .i64 0, .int .i64 0]) w := by kernel_rfl
theorem zeroI (w : World) : (zeroValue 3).run Tryz.prog w = .ok (.int .i64 0) w := by kernel_rfl
theorem seatG_look {l : List Seat} {x : Int} (h : hasB l x = true) : seatG l x = some (seatV (seatFor l x)) := by unfold seatG; rw [if_pos h]
theorem seatG_none {l : List Seat} {x : Int} (h : hasB l x = false) : seatG l x = none := by unfold seatG; rw [h]; rfl
/-- Numbers that fit into the machine's. -/
def WfI (xs : List Int) : Prop := ∀ i, i < xs.length → (Lit.int .i64 (xs.getD i 0)).wf = true

theorem MapI.len {P : Program} {k : TypeId} {w : World} {b n : Nat} {g : Int → Option Value} (h : MapI P k w b n g) {t e : TypeId} (ht : P.underlying t = some (.map k e)) :
    ∃ q : Nat, q ≤ n ∧ ∀ ty, (Builtin.len_ #[t] ty #[.map (some b)]).run P w = .ok (.int .i64 (q : Int)) w := by
  obtain ⟨D, h1, _⟩ := h
  exact ⟨Maps.size D, h1.size_le, fun ty => h1.len ht ty⟩
theorem wpList_len_run {P : Program} (w : World) {ops : Array Oper} {rest : List Oper} {o : Oper} {a : Act} {Q : Exit → Act → World → Prop} (hgd : o.guard = none) (s : Operand) (t : TypeId)
    (ho : o.op = .call { callee := .builtin .len, args := #[s], argTypes := #[t] }) (vs : Value) (hs : a.eval s = vs)
    (v' : Value) (w' : World) (hr : (Builtin.len_ #[t] o.type #[vs]).run P w = .ok v' w') (h : wpList P ops Q rest (a.put o.dst v') w') : wpList P ops Q (o :: rest) a w := by
  refine wpList_plain hgd fun K hK => ?_
  unfold Oper.wp execOp
  simp only [ho, resolve, invoke, builtin, Sem.run_bind, Sem.run_pure, Result.andThen_ok, List.map_toArray, List.map_cons, List.map_nil, hs, hr]
  exact hK _ _ h

def R48 (l : List Seat) (items : List Int) (m : Nat) (w : World) (u15 : Value) (wr : World) : Prop :=
  ∃ i : Nat, i ≤ m ∧ u15 = .int .i64 i ∧ (∀ j, j < i → feedAt l items j = 0) ∧ MapI Tryz.prog 3 wr w.heap.size i (fedG items i) ∧ Below w.heap.size w wr

set_option maxRecDepth 100000 in
set_option maxHeartbeats 2000000 in
theorem feed_any (w : World) (bm kq : Nat) (ao : Option Addr) (m c : Nat) (l : List Seat) (items : List Int) (hmap : MapI Tryz.prog 3 w bm kq (seatG l)) (h : Ints w ao m items) (hwf : WfI items) (hm : m ≤ 1048576) :
    Calls Tryz.prog 48 #[.map (some bm), .slice ao m c] w fun e w' => e = .returned (.int .i64 (feedP l items)) ∧ Below w.heap.size w w' := by
  have Hl := Lib.hid h.len
  obtain ⟨q, hq, hlen⟩ := hmap.len Tryz.underlying107
  have Hlen := Lib.hid hlen
  have hmm := fun w => run_makeMap_n (P := Tryz.prog) 172 3 3 Tryz.underlying172 q w
  have hb0 : Below w.heap.size w (w.alloc (.map #[] 0)) := (Below.refl _ _).alloc (Nat.le_refl _) _
  have hs0 : MapI Tryz.prog 3 (w.alloc (.map #[] 0)) w.heap.size 0 (fedG items 0) := (MapI.made _ _ w).congr fun x => by unfold fedG cntTo; simp
  have Hwf := Lib.hid hwf
  clear hlen hwf
  go_enter Tryz.func48, Tryz.ntmps48
  go_wp2_with (at_len; refine wpList_len_run _ rfl _ 107 rfl _ rfl _ _ (Hlen.out _) ?_)
  go_loopw [15] (R48 l items m w) (fun u15 _ => m - (intOf u15).toNat)
  case atStart => exact ⟨0, Nat.zero_le _, rfl, fun j hj => absurd hj (by omega), hs0, hb0⟩
  case round =>
    clear hb0 hs0 hmm
    obtain ⟨i, hi, rfl, hall, hset, hb⟩ := hrel
    have Hall := Lib.hid hall
    clear hall
    by_cases hlt : i < m
    · obtain ⟨g, off, rfl, hg, hc0⟩ := h.at hlt
      have e0 : wr.cell? ⟨g, off + i, none⟩ = some (.int .i64 (items.getD i 0)) := (hb.cell (p := ⟨g, off + i, none⟩) hg).trans hc0
      have hw := Hwf.out i (by rw [Hl.out]; exact hlt)
      have hil : i < items.length := by rw [Hl.out]; exact hlt
      have hcl := cnt_le items i (items.getD i 0)
      rw [Hl.out] at hcl
      have Hput := Lib.hid (fedG_put items i hil (items.getD i 0) rfl)
      have Hhit : Hid (∀ e, feedAt l items i = e → e ≠ 0 → feedP l items = e) := fun e he h0 => feed_hit hil he h0 Hall.out
      have Hat : Hid (feedAt l items i = if hasB l (items.getD i 0) = false then 6 else if Seat.vol (seatFor l (items.getD i 0)) ≤ (cntTo items i (items.getD i 0) : Int) then 4 else 0) := rfl
      have hsz := hb.size
      have hm1 := hmap.below hb
      clear hc0 hil
      generalize items.getD i 0 = x at *
      have Hw := Lib.hid hw
      clear hw
      have hlk := hm1.look_ok Tryz.underlying3 Tryz.underlying107 (zeroS _) Hw.out
      cases hh : hasB l x with
      | false =>
        rw [seatG_none hh] at hlk
        have E := Lib.hid (Hhit.out 6 (by rw [Hat.out, if_pos hh]) (by decide))
        simp only [Option.getD_none, Option.isSome_none] at hlk
        clear hh
        go_wp2_with fail
        go_ret
        exact ⟨by rw [E.out]; rfl, hb.alloc hsz _⟩
      | true =>
        rw [seatG_look hh] at hlk
        simp only [Option.getD_some, Option.isSome_some] at hlk
        unfold seatV at hlk
        have hat2 := Hat.out
        rw [if_neg (by rw [hh]; decide)] at hat2
        have Hat2 := Lib.hid hat2
        clear hat2 hh Hat
        generalize Seat.vol (seatFor l x) = v at *
        generalize Seat.stop (seatFor l x) = v0 at *
        generalize Seat.first (seatFor l x) = v2 at *
        generalize Seat.second (seatFor l x) = v3 at *
        have hset1 := hset.alloc (.cells #[.int .i64 v0, .int .i64 v, .int .i64 v2, .int .i64 v3] 64)
        have hb1 := hb.alloc hsz (.cells #[.int .i64 v0, .int .i64 v, .int .i64 v2, .int .i64 v3] 64)
        have hlk2 := hset1.look Tryz.underlying3 Tryz.underlying172 (zeroI _) Hw.out
        rw [fedG_look] at hlk2
        generalize cntTo items i x = cn at *
        have Hset1 := Lib.hid hset1
        have Hb1 := Lib.hid hb1
        clear hset hset1 hb1 hb
        by_cases hv : v ≤ (cn : Int)
        · have E := Lib.hid (Hhit.out 4 (by rw [Hat2.out, if_pos hv]) (by decide))
          go_wp2_with fail
          go_ret
          exact ⟨by rw [E.out]; rfl, Hb1.out⟩
        · have E : Hid (feedAt l items i = 0) := by show _ = _; rw [Hat2.out, if_neg hv]
          go_wp2_with (at_mapUpdate; refine wpList_mapUpdate_I _ rfl _ _ _ 172 rfl 3 3 Tryz.underlying3 Tryz.underlying172 w.heap.size i (fedG items i) rfl Hset1.out (by unfold maxLen; omega) x (.int .i64 ((cn : Int) + 1)) rfl rfl Hw.out ?_)
          intro w1 hset2 hgr
          have hb2 : Below w.heap.size w w1 := Hb1.out.grown hgr Hb1.out.size (fun g hg => by cases hg; exact Nat.le_refl _)
          have hset3 : MapI Tryz.prog 3 w1 w.heap.size (i + 1) (fedG items (i + 1)) := hset2.congr Hput.out
          clear hset2 hgr hlk hlk2 hm1
          go_wp2_with fail
          go_roundw
          case rel => exact ⟨i + 1, hlt, by go_num, fun j hj => (by
            by_cases e : j = i
            · subst e; exact E.out
            · exact Hall.out j (by omega)), hset3, hb2⟩
          case measure => simp [intOf] <;> omega
    · obtain rfl : i = m := by omega
      have E : Hid (feedP l items = 0) := feed_none (fun j hj => Hall.out j (by rw [Hl.out] at hj; exact hj))
      go_wp2_with fail
      go_ret
      exact ⟨by rw [E.out]; rfl, hb⟩
end Go.Proofs.YtpfinkdpaomliaaGreat
