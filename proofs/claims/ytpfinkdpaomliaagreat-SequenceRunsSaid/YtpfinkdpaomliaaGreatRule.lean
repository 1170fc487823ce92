/-
  'rule' of the reference: the seats of the rule for a limit.
-/
import Derived.Test.YtpfinkdpaomliaaGreatRefLoads
namespace Go.Proofs.YtpfinkdpaomliaaGreat
open Go.RowKit

/-- Stops as seats at the first stackers. -/
def zeroSeats (l : List Stop) : List Seat := l.map fun s => (s.1, s.2, 0, 0)
/-- Where the rule stands, or has come to an end with all stops. -/
def Qr (l : List Stop) (caps : List Int) (most next at_ k : Nat) (load : Int) (out : List Seat) : Prop :=
  Reach l caps most ⟨next, at_, k, load, out⟩ ∨ (next = l.length ∧ ∃ s, Reach l caps most s ∧ s.next = l.length ∧ s.out = out)
theorem Qr.reach {l : List Stop} {caps : List Int} {most next at_ k : Nat} {load : Int} {out : List Seat} (h : Qr l caps most next at_ k load out) (hn : next < l.length) : Reach l caps most ⟨next, at_, k, load, out⟩ := by
  rcases h with h | ⟨h, _⟩
  · exact h
  · omega
theorem Qr.full {l : List Stop} {caps : List Int} {most next at_ k : Nat} {load : Int} {out : List Seat} (h : Qr l caps most next at_ k load out) (hn : next = l.length) (at2 : Nat) : Qr l caps most next at2 0 0 out := by
  rcases h with h | h
  · exact .inr ⟨hn, _, h, hn, rfl⟩
  · exact .inr h
theorem Qr.final {l : List Stop} {caps : List Int} {most next k : Nat} {load : Int} {out : List Seat} (h : Qr l caps most next caps.length k load out) : (finalSq l caps most).next = next ∧ (finalSq l caps most).out = out := by
  rcases h with h | ⟨h, s, hr, h1, h2⟩
  · have := h.final (fun hx => Nat.lt_irrefl _ hx.2)
    rw [← this]
    exact ⟨rfl, rfl⟩
  · have := hr.final (fun hx => by rw [h1] at hx; exact Nat.lt_irrefl _ hx.1)
    rw [← this]
    exact ⟨h1.trans h.symm, h2⟩
theorem seat_set (zs : List Seat) (k : Nat) (hk : k < zs.length) (a b : Int) (j : Nat) :
    (if j = k * 4 + 3 then Value.int .i64 b else if j = k * 4 + 2 then .int .i64 a else cellsF 4 seatC seatD zs j) = cellsF 4 seatC seatD (zs.set k (Seat.stop (zs.getD k seatD), Seat.vol (zs.getD k seatD), a, b)) j := by
  obtain ⟨q, i, hi, rfl⟩ := split_at (size := 4) (by omega) j
  rw [cellsF_at (by omega) _ _ hi, cellsF_at (by omega) _ _ hi]
  by_cases e : q = k
  · subst e
    have e1 : (zs.set q (Seat.stop (zs.getD q seatD), Seat.vol (zs.getD q seatD), a, b)).getD q seatD = (Seat.stop (zs.getD q seatD), Seat.vol (zs.getD q seatD), a, b) := by
      rw [List.getD_eq_getElem?_getD, List.getElem?_set_self hk]; rfl
    rw [e1]
    have : i = 0 ∨ i = 1 ∨ i = 2 ∨ i = 3 := by omega
    rcases this with rfl | rfl | rfl | rfl
    · rw [if_neg (by omega), if_neg (by omega)]; rfl
    · rw [if_neg (by omega), if_neg (by omega)]; rfl
    · rw [if_neg (by omega), if_pos rfl]; rfl
    · rw [if_pos rfl]; rfl
  · rw [if_neg (by omega), if_neg (by omega), List.getD_eq_getElem?_getD, List.getD_eq_getElem?_getD, List.getD_eq_getElem?_getD, List.getD_eq_getElem?_getD, List.getElem?_set_ne (fun h => e h.symm)]
theorem zero_at (l : List Stop) (out : List Seat) (next : Nat) (ho : out.length = next) (hn : next < l.length) :
    (out ++ (zeroSeats l).drop next).getD next seatD = ((l.getD next stopD).1, (l.getD next stopD).2, 0, 0) := by
  rw [List.getD_eq_getElem?_getD, List.getElem?_append_right (by omega), ho, Nat.sub_self, List.getElem?_drop, Nat.add_zero]
  unfold zeroSeats
  rw [List.getElem?_map, List.getElem?_eq_getElem hn, List.getD_eq_getElem?_getD, List.getElem?_eq_getElem hn]
  rfl
theorem zero_set (l : List Stop) (out : List Seat) (next : Nat) (ho : out.length = next) (hn : next < l.length) (x : Seat) :
    (out ++ (zeroSeats l).drop next).set next x = (out ++ [x]) ++ (zeroSeats l).drop (next + 1) := by
  have hl : next < (zeroSeats l).length := by unfold zeroSeats; simpa using hn
  rw [List.drop_eq_getElem_cons hl, List.set_append_right _ _ (by omega), ho, Nat.sub_self, List.set_cons_zero, List.append_assoc]
  rfl

def Ro37 (l : List Stop) (caps : List Int) (most m n : Nat) (ao : Option Addr) (cap : Nat) (w : World) (u9 u10 : Value) (wr : World) : Prop :=
  ∃ (next at_ : Nat) (out : List Seat), at_ ≤ n ∧ next ≤ m ∧ u9 = .int .i64 next ∧ u10 = .int .i64 at_ ∧ Qr l caps most next at_ 0 0 out ∧ out.length = next ∧ OwnSeats 65 w.heap.size wr ao m cap (out ++ (zeroSeats l).drop next) ∧ Below w.heap.size w wr
def Ri37 (l : List Stop) (caps : List Int) (most m at_ : Nat) (ao : Option Addr) (cap : Nat) (w : World) (u9 u11 u12 : Value) (wr : World) : Prop :=
  ∃ (next k : Nat) (load : Int) (out : List Seat), next ≤ m ∧ u9 = .int .i64 next ∧ u11 = .int .i64 load ∧ u12 = .int .i64 k ∧ k ≤ most ∧ Qr l caps most next at_ k load out ∧ out.length = next ∧ OwnSeats 65 w.heap.size wr ao m cap (out ++ (zeroSeats l).drop next) ∧ Below w.heap.size w wr

set_option maxRecDepth 1000000 in
set_option maxHeartbeats 2000000 in
theorem rule_any (w : World) (ao bo : Option Addr) (m c n c1 most : Nat) (l : List Stop) (caps : List Int) (h : Seats w ao m (zeroSeats l)) (hc : Ints w bo n caps) (hv : goodVols l) (hm : m ≤ 1000) (hn : n ≤ 1048576) (hmost : most ≤ 1048576)
    (hcap : ∀ i, i < n → -1000000000 ≤ capAt caps i ∧ capAt caps i ≤ 1000000000) :
    Calls Tryz.prog 37 #[.slice ao m c, .slice bo n c1, .int .i64 most] w fun e w' => ∃ ao' cap' zs, e = .returned (.tuple #[.slice ao' m cap', .bool (decide ((finalSq l caps most).next = m))]) ∧
      OwnSeats 65 w.heap.size w' ao' m cap' zs ∧ ((finalSq l caps most).next = m → zs = (finalSq l caps most).out) ∧ Below w.heap.size w w' := by
  have hl0 := h.len
  have hlm : l.length = m := by unfold zeroSeats at hl0; simpa using hl0
  have Hl := Lib.hid hlm
  have Hcl := Lib.hid hc.len
  clear hl0 hlm
  obtain ⟨i0, hi0, hz0, hz1, hz2⟩ := info_parts (show (Tryz.prog.info? 65).map (fun i => (i.zero, i.size, i.bytes)) = some (some (.agg #[.int .i64 0, .int .i64 0, .int .i64 0, .int .i64 0]), 4, 32) by kernel_rfl)
  have hb1 : Below w.heap.size w (w.alloc (.cells #[] 65)) := (Below.refl _ _).alloc (Nat.le_refl _) _
  have hs0 : Sl (w.alloc (.cells #[] 65)) 65 4 (some ⟨w.heap.size, 0, none⟩) 0 0 (cellsF 4 seatC seatD []) := Sl.nil _ _ _ _ _
  have h1 := h.below hb1
  go_enter Tryz.func37, Tryz.ntmps37
  go_wp2_with (at_builtin; refine wpList_append_of _ rfl (.tmp 13) (.tmp 14) 27 27 rfl 65 i0 _ 4 32 Tryz.underlying27 hi0 hz0 hz1 hz2 rfl rfl hs0 (.slice ao m c) rfl m _ (rdL_src seatE Tryz.underlying27 h1 c) (by unfold maxLen; omega) (by omega) ?_)
  intro ao1 cap1 w1 ha1
  have hown : OwnSeats 65 w.heap.size w1 ao1 m cap1 ([] ++ (zeroSeats l).drop 0) := by
    have := ownL_all (d := seatD) seatE hs0 (fun g hg => by simp [rowOf] at hg) (B := w.heap.size) (by simp) (zeroSeats l) (h1.len.symm) rfl (by simpa using ha1)
    simpa using this
  have hb2 : Below w.heap.size w w1 := hb1.grown ha1.grown (by simp) fun g hg => by simp [rowOf] at hg
  clear ha1 hs0 hb1 h1
  go_wp2_with fail
  go_loopw [9, 10] (Ro37 l caps most m n ao1 cap1 w) (fun _ u10 _ => n - (intOf u10).toNat)
  case atStart => exact ⟨0, 0, [], Nat.zero_le _, Nat.zero_le _, rfl, rfl, .inl Reach.start, rfl, hown, hb2⟩
  case round =>
    clear hown hb2
    obtain ⟨next, at_, out, hat, hnx, rfl, rfl, hq, ho, hown, hb⟩ := hrel
    by_cases hlt : at_ < n
    · obtain ⟨wo, rfl⟩ : ∃ wo : World, wo = wr := ⟨_, rfl⟩
      obtain ⟨b0, o0, rfl, hb0, hcc⟩ := hc.at hlt
      have hcb := hcap at_ hlt
      have hcc : w.cell? ⟨b0, o0 + at_, none⟩ = some (.int .i64 (capAt caps at_)) := hcc
      generalize hcx : capAt caps at_ = cx at hcc hcb
      have Hcx := Lib.hid hcx
      clear hcx
      have Hcc := Lib.hid hcc
      clear hcc
      go_wp2_with fail
      go_loopw [9, 11, 12] (Ri37 l caps most m at_ ao1 cap1 w) (fun _ _ u12 _ => most - (intOf u12).toNat)
      case atStart => exact ⟨next, 0, 0, out, hnx, rfl, rfl, rfl, Nat.zero_le _, hq, ho, hown, hb⟩
      case round =>
        clear hown hb hq ho hnx
        obtain ⟨next, k, load, out, hnx, rfl, rfl, rfl, hk, hq, ho, hown, hb⟩ := hrel
        have Ho := Lib.hid ho
        clear ho
        by_cases hkm : k < most
        · by_cases hnm : next < m
          · obtain ⟨g, rfl, hrow, hg, hBg⟩ := hown.some_ (by omega)
            have hcapp := hown.sl.le
            have hz := zero_at l out next Ho.out (by rw [Hl.out]; exact hnm)
            have key : ∀ j, j < 4 → wr.cell? ⟨g, next * 4 + j, none⟩ = some ((seatC ((l.getD next stopD).1, volAt l next, 0, 0)).getD j undef) := by
              intro j hj
              have := hown.sl.cell (i := next * 4 + j) (by omega)
              rw [cellsF_at (by omega) _ _ hj, hz] at this
              exact this
            have e1 : wr.cell? ⟨g, next * 4 + 1, none⟩ = some (.int .i64 (volAt l next)) := key 1 (by omega)
            have e2 : wr.cell? ⟨g, next * 4 + 2, none⟩ = some (.int .i64 0) := key 2 (by omega)
            have e3 : wr.cell? ⟨g, next * 4 + 3, none⟩ = some (.int .i64 0) := key 3 (by omega)
            have f2 := hown.sl.frozen (by omega) (next * 4 + 2)
            have f3 := hown.sl.frozen (by omega) (next * 4 + 3)
            have ec : wr.cell? ⟨b0, o0 + at_, none⟩ = some (.int .i64 cx) := (hb.cell (p := ⟨b0, o0 + at_, none⟩) hb0).trans Hcc.out
            clear key
            have hre := hq.reach (by rw [Hl.out]; exact hnm)
            have hinv := hre.inv hv
            have l0 := hinv.load0
            have l1 := hinv.loadM
            have l2 := hinv.heldN
            have l3 := hv next (by rw [Hl.out]; exact hnm)
            dsimp only at l0 l1 l2
            clear hinv
            have Hz := Lib.hid hz
            clear hz
            have Hset := Lib.hid (zero_set l out next Ho.out (by rw [Hl.out]; exact hnm) (seatOf (l.getD next stopD) k at_))
            have Hpl : Hid (load + volAt l next ≤ cx → Qr l caps most (next + 1) at_ (k + 1) (load + volAt l next) (out ++ [seatOf (l.getD next stopD) k at_])) := fun hx =>
              .inl (Reach.place hre (by rw [Hl.out]; exact hnm) (by rw [Hcl.out]; exact hlt) hkm (by dsimp only; rw [Hcx.out]; exact hx))
            have Had : Hid (¬ load + volAt l next ≤ cx → Qr l caps most next (at_ + 1) 0 0 out) := fun hx =>
              .inl (Reach.advance hre (by rw [Hl.out]; exact hnm) (by rw [Hcl.out]; exact hlt) (by dsimp only; rw [Hcx.out]; exact fun h => hx h.2))
            have hsz : (out ++ (zeroSeats l).drop next).length = m := hown.len
            have Hsz := Lib.hid hsz
            clear hsz hre
            have Hx : Hid (∀ j, (if j = next * 4 + 3 then Value.int .i64 (at_ : Int) else if j = next * 4 + 2 then .int .i64 (k : Int) else cellsF 4 seatC seatD (out ++ (zeroSeats l).drop next) j) =
                cellsF 4 seatC seatD ((out ++ [seatOf (l.getD next stopD) k at_]) ++ (zeroSeats l).drop (next + 1)) j) := by
              intro j
              rw [seat_set _ next (by rw [Hsz.out]; exact hnm) (k : Int) (at_ : Int) j, Hz.out, ← Hset.out]
              rfl
            generalize volAt l next = vx at *
            by_cases hfit : load + vx ≤ cx
            · have hfit2 : ¬ cx < load + vx := by omega
              have Hp := Lib.hid (Hpl.out hfit)
              have hg' := hg
              go_wp2_with fail
              go_roundw
              case rel =>
                refine ⟨next + 1, k + 1, load + vx, out ++ [seatOf (l.getD next stopD) k at_], hnm, by go_num, rfl, by go_num, hkm, Hp.out, by rw [List.length_append, Ho.out]; rfl, ⟨?_, ?_, hown.row⟩, ?_⟩
                · exact Sl.congr ((hown.sl.set (i := next * 4 + 2) (.int .i64 (k : Int))).set (i := next * 4 + 3) (.int .i64 (at_ : Int))) (fun j _ => Hx.out j)
                · rw [← Hset.out, List.length_set, Hsz.out]
                · exact (hb.setCell (p := ⟨g, next * 4 + 2, none⟩) hBg _).setCell (p := ⟨g, next * 4 + 3, none⟩) hBg _
              case measure => simp [intOf] <;> omega
            · have hfit2 : cx < load + vx := by omega
              have Hp := Lib.hid (Had.out hfit)
              go_wp2_with fail
              go_roundw
              case rel => exact ⟨next, at_ + 1, out, hlt, hnx, rfl, by go_num, Hp.out, Ho.out, hown, hb⟩
              case measure => simp [intOf] <;> omega
          · have Hp := Lib.hid (hq.full (by rw [Hl.out]; omega) (at_ + 1))
            go_wp2_with fail
            go_roundw
            case rel => exact ⟨next, at_ + 1, out, hlt, hnx, rfl, by go_num, Hp.out, Ho.out, hown, hb⟩
            case measure => simp [intOf] <;> omega
        · have Hp : Hid (Qr l caps most next (at_ + 1) 0 0 out) := by
            by_cases hnm : next < m
            · exact .inl ((hq.reach (by rw [Hl.out]; exact hnm)).advance (by rw [Hl.out]; exact hnm) (by rw [Hcl.out]; exact hlt) (fun h => hkm h.1))
            · exact hq.full (by rw [Hl.out]; omega) (at_ + 1)
          go_wp2_with fail
          go_roundw
          case rel => exact ⟨next, at_ + 1, out, hlt, hnx, rfl, by go_num, Hp.out, Ho.out, hown, hb⟩
          case measure => simp [intOf] <;> omega
    · obtain rfl : at_ = n := by omega
      have hfin : (finalSq l caps most).next = next ∧ (finalSq l caps most).out = out := by
        rw [← Hcl.out] at hq
        exact hq.final
      have Hf := Lib.hid hfin
      clear hfin
      have Hd : Hid (next = m → out ++ (zeroSeats l).drop next = out) := by
        intro hx
        rw [hx, ← Hl.out, List.drop_of_length_le (by unfold zeroSeats; simp), List.append_nil]
      by_cases hnm : next = m
      · have E := Lib.hid ((Hd.out hnm).trans Hf.out.2.symm)
        have E2 := Lib.hid (Hf.out.1.trans hnm)
        clear Hd
        have q : ((next : Int) == (m : Int)) = true := by rw [hnm]; simp
        have Hnm := Lib.hid hnm
        clear hnm
        go_wp2_with fail
        go_ret2
        exact ⟨ao1, cap1, out ++ (zeroSeats l).drop next, by rw [decide_eq_true E2.out]; rfl, hown, fun _ => E.out, hb⟩
      · have q : ((next : Int) == (m : Int)) = false := by rw [beq_eq_false_iff_ne]; omega
        go_wp2_with fail
        go_ret2
        exact ⟨ao1, cap1, out ++ (zeroSeats l).drop next, by rw [decide_eq_false (fun h => hnm (Hf.out.1.symm.trans h))]; simp, hown, fun hx => absurd (Hf.out.1.symm.trans hx) hnm, hb⟩
end Go.Proofs.YtpfinkdpaomliaaGreat
