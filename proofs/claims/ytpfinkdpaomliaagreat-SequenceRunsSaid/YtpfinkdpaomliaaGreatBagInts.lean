/-
  apart, of a bag whose Ints alone are not nil: it returns true where flatInts does. Printed by wip/gen_bag.py.
-/
import Derived.Test.YtpfinkdpaomliaaGreatProg
import Derived.Test.YtpfinkdpaomliaaGreatFlatNil
import Derived.Test.YtpfinkdpaomliaaGreatFlatInts
import Derived.Lib.Hide
namespace Go.Proofs.YtpfinkdpaomliaaGreat
open Go.RowKit

/-- A bag whose Ints alone are not nil lies in block b. -/
def BagInts (w : World) (b : Nat) (v : Value) : Prop := ∃ cur : Array Value, w.heap[b]? = some (.cells cur 147 (0, 0)) ∧ ∀ i, i < 33 → cur[i]? = some (if i = 1 then v else .slice none 0 0)

theorem BagInts.cell {w w' : World} {b : Nat} {v : Value} {B : Nat → Prop} (h : BagInts w b v) (hb : ¬ B b) (ho : Only B w w') {i : Nat} (hi : i < 33) : w'.cell? ⟨b, i, none⟩ = some (if i = 1 then v else .slice none 0 0) := by
  obtain ⟨cur, h1, h2⟩ := h
  have hlt : b < w.heap.size := (Array.getElem?_eq_some_iff.1 h1).1
  have h3 := (ho.block b hlt hb).trans h1
  simp [World.cell?, h3, h2 i hi]

theorem flatLimbs_both {B : Nat → Prop} {w0 : World} (hB : ∀ g, w0.heap.size ≤ g → B g) (w : World) (h : Only B w0 w) (hb : Below w0.heap.size w0 w) :
    Calls Tryz.prog 69 #[.slice none 0 0] w fun e w' => e = .returned (.bool true) ∧ Only B w0 w' ∧ Below w0.heap.size w0 w' :=
  (flatLimbs_nil w).mono fun _ _ ⟨h1, h2⟩ => ⟨h1, h.fresh hB h2, hb.trans (h2.mono hb.size)⟩

set_option maxRecDepth 1000000 in
set_option maxHeartbeats 4000000 in
theorem apartInts (B : Nat → Prop) (n cap : Nat) (ao : Option Addr) (A : Nat → Option Addr) (L C : Nat → Nat) (F : Nat → Nat → Value) (w : World) (b : Nat) (hn : n ≤ 1048576) (hL : ∀ k, k < n → L k ≤ 1048576)
    (hst : St 3 23 F B n ao cap A L C w w) (hbag : BagInts w b (.slice ao n cap)) (hb : ¬ B b) :
    Calls Tryz.prog 54 #[.pointer (some ⟨b, 0, none⟩)] w fun e w' => e = .returned (.bool true) ∧ Only B w w' := by
  have h0 : Only B w w := Only.refl _ _
  have hreal : ∀ w', Only B w w' → Below w.heap.size w w' → Calls Tryz.prog 70 #[.slice ao n cap] w' fun e w'' => e = .returned (.bool true) ∧ Only B w w'' := fun w' ho hbl =>
    (flatInts_any B n cap ao A L C F w' hn hL (hst.fresh hbl).rebase).mono fun _ _ ⟨h1, h2⟩ => ⟨h1, ho.trans h2⟩
  have c0 : ∀ w', Only B w w' → w'.cell? ⟨b, 0, none⟩ = some (.slice none 0 0) := fun w' ho => hbag.cell hb ho (by omega)
  have c1 : ∀ w', Only B w w' → w'.cell? ⟨b, 1, none⟩ = some (.slice ao n cap) := fun w' ho => hbag.cell hb ho (by omega)
  have c2 : ∀ w', Only B w w' → w'.cell? ⟨b, 2, none⟩ = some (.slice none 0 0) := fun w' ho => hbag.cell hb ho (by omega)
  have c3 : ∀ w', Only B w w' → w'.cell? ⟨b, 3, none⟩ = some (.slice none 0 0) := fun w' ho => hbag.cell hb ho (by omega)
  have c4 : ∀ w', Only B w w' → w'.cell? ⟨b, 4, none⟩ = some (.slice none 0 0) := fun w' ho => hbag.cell hb ho (by omega)
  have c5 : ∀ w', Only B w w' → w'.cell? ⟨b, 5, none⟩ = some (.slice none 0 0) := fun w' ho => hbag.cell hb ho (by omega)
  have c6 : ∀ w', Only B w w' → w'.cell? ⟨b, 6, none⟩ = some (.slice none 0 0) := fun w' ho => hbag.cell hb ho (by omega)
  have c7 : ∀ w', Only B w w' → w'.cell? ⟨b, 7, none⟩ = some (.slice none 0 0) := fun w' ho => hbag.cell hb ho (by omega)
  have c8 : ∀ w', Only B w w' → w'.cell? ⟨b, 8, none⟩ = some (.slice none 0 0) := fun w' ho => hbag.cell hb ho (by omega)
  have c9 : ∀ w', Only B w w' → w'.cell? ⟨b, 9, none⟩ = some (.slice none 0 0) := fun w' ho => hbag.cell hb ho (by omega)
  have c10 : ∀ w', Only B w w' → w'.cell? ⟨b, 10, none⟩ = some (.slice none 0 0) := fun w' ho => hbag.cell hb ho (by omega)
  have c11 : ∀ w', Only B w w' → w'.cell? ⟨b, 11, none⟩ = some (.slice none 0 0) := fun w' ho => hbag.cell hb ho (by omega)
  have c12 : ∀ w', Only B w w' → w'.cell? ⟨b, 12, none⟩ = some (.slice none 0 0) := fun w' ho => hbag.cell hb ho (by omega)
  have c13 : ∀ w', Only B w w' → w'.cell? ⟨b, 13, none⟩ = some (.slice none 0 0) := fun w' ho => hbag.cell hb ho (by omega)
  have c14 : ∀ w', Only B w w' → w'.cell? ⟨b, 14, none⟩ = some (.slice none 0 0) := fun w' ho => hbag.cell hb ho (by omega)
  have c15 : ∀ w', Only B w w' → w'.cell? ⟨b, 15, none⟩ = some (.slice none 0 0) := fun w' ho => hbag.cell hb ho (by omega)
  have c16 : ∀ w', Only B w w' → w'.cell? ⟨b, 16, none⟩ = some (.slice none 0 0) := fun w' ho => hbag.cell hb ho (by omega)
  have c17 : ∀ w', Only B w w' → w'.cell? ⟨b, 17, none⟩ = some (.slice none 0 0) := fun w' ho => hbag.cell hb ho (by omega)
  have c18 : ∀ w', Only B w w' → w'.cell? ⟨b, 18, none⟩ = some (.slice none 0 0) := fun w' ho => hbag.cell hb ho (by omega)
  have c19 : ∀ w', Only B w w' → w'.cell? ⟨b, 19, none⟩ = some (.slice none 0 0) := fun w' ho => hbag.cell hb ho (by omega)
  have c20 : ∀ w', Only B w w' → w'.cell? ⟨b, 20, none⟩ = some (.slice none 0 0) := fun w' ho => hbag.cell hb ho (by omega)
  have c21 : ∀ w', Only B w w' → w'.cell? ⟨b, 21, none⟩ = some (.slice none 0 0) := fun w' ho => hbag.cell hb ho (by omega)
  have c22 : ∀ w', Only B w w' → w'.cell? ⟨b, 22, none⟩ = some (.slice none 0 0) := fun w' ho => hbag.cell hb ho (by omega)
  have c23 : ∀ w', Only B w w' → w'.cell? ⟨b, 23, none⟩ = some (.slice none 0 0) := fun w' ho => hbag.cell hb ho (by omega)
  have c24 : ∀ w', Only B w w' → w'.cell? ⟨b, 24, none⟩ = some (.slice none 0 0) := fun w' ho => hbag.cell hb ho (by omega)
  have c25 : ∀ w', Only B w w' → w'.cell? ⟨b, 25, none⟩ = some (.slice none 0 0) := fun w' ho => hbag.cell hb ho (by omega)
  have c26 : ∀ w', Only B w w' → w'.cell? ⟨b, 26, none⟩ = some (.slice none 0 0) := fun w' ho => hbag.cell hb ho (by omega)
  have c27 : ∀ w', Only B w w' → w'.cell? ⟨b, 27, none⟩ = some (.slice none 0 0) := fun w' ho => hbag.cell hb ho (by omega)
  have c28 : ∀ w', Only B w w' → w'.cell? ⟨b, 28, none⟩ = some (.slice none 0 0) := fun w' ho => hbag.cell hb ho (by omega)
  have c29 : ∀ w', Only B w w' → w'.cell? ⟨b, 29, none⟩ = some (.slice none 0 0) := fun w' ho => hbag.cell hb ho (by omega)
  have c30 : ∀ w', Only B w w' → w'.cell? ⟨b, 30, none⟩ = some (.slice none 0 0) := fun w' ho => hbag.cell hb ho (by omega)
  have c31 : ∀ w', Only B w w' → w'.cell? ⟨b, 31, none⟩ = some (.slice none 0 0) := fun w' ho => hbag.cell hb ho (by omega)
  have c32 : ∀ w', Only B w w' → w'.cell? ⟨b, 32, none⟩ = some (.slice none 0 0) := fun w' ho => hbag.cell hb ho (by omega)
  have hbl0 : Below w.heap.size w w := Below.refl _ _
  have hB := hst.size
  clear hst hbag hb
  have Hreal := Lib.hid hreal
  clear hreal
  have HB := Lib.hid hB
  clear hB
  go_enter Tryz.func54, Tryz.ntmps54
  go_wp2_with fail
  refine (flatLimbs_both HB.out _ (by assumption) (by assumption)).mono ?_
  rintro e w1 ⟨rfl, ho1, hbl1⟩
  clear h0 hbl0
  go_wp2_with fail
  refine (Hreal.out _ (by assumption) (by assumption)).mono ?_
  rintro e w2 ⟨rfl, ho2⟩
  clear ho1 hbl1
  go_wp2_with fail
  refine (flatTexts_acc HB.out _ (by assumption)).mono ?_
  rintro e w3 ⟨rfl, ho3⟩
  clear ho2
  go_wp2_with fail
  refine (flatBytes_acc HB.out _ (by assumption)).mono ?_
  rintro e w4 ⟨rfl, ho4⟩
  clear ho3
  go_wp2_with fail
  refine (flatParts_acc HB.out _ (by assumption)).mono ?_
  rintro e w5 ⟨rfl, ho5⟩
  clear ho4
  go_wp2_with fail
  refine (flatReadings_acc HB.out _ (by assumption)).mono ?_
  rintro e w6 ⟨rfl, ho6⟩
  clear ho5
  go_wp2_with fail
  refine (flatTowns_acc HB.out _ (by assumption)).mono ?_
  rintro e w7 ⟨rfl, ho7⟩
  clear ho6
  go_wp2_with fail
  refine (flatStreets_acc HB.out _ (by assumption)).mono ?_
  rintro e w8 ⟨rfl, ho8⟩
  clear ho7
  go_wp2_with fail
  refine (flatRanges_acc HB.out _ (by assumption)).mono ?_
  rintro e w9 ⟨rfl, ho9⟩
  clear ho8
  go_wp2_with fail
  refine (flatPoints_acc HB.out _ (by assumption)).mono ?_
  rintro e w10 ⟨rfl, ho10⟩
  clear ho9
  go_wp2_with fail
  refine (flatRefers_acc HB.out _ (by assumption)).mono ?_
  rintro e w11 ⟨rfl, ho11⟩
  clear ho10
  go_wp2_with fail
  refine (flatRules_acc HB.out _ (by assumption)).mono ?_
  rintro e w12 ⟨rfl, ho12⟩
  clear ho11
  go_wp2_with fail
  refine (flatPieces_acc HB.out _ (by assumption)).mono ?_
  rintro e w13 ⟨rfl, ho13⟩
  clear ho12
  go_wp2_with fail
  refine (flatMailings_acc HB.out _ (by assumption)).mono ?_
  rintro e w14 ⟨rfl, ho14⟩
  clear ho13
  go_wp2_with fail
  refine (flatLabels_acc HB.out _ (by assumption)).mono ?_
  rintro e w15 ⟨rfl, ho15⟩
  clear ho14
  go_wp2_with fail
  refine (flatLevels_acc HB.out _ (by assumption)).mono ?_
  rintro e w16 ⟨rfl, ho16⟩
  clear ho15
  go_wp2_with fail
  refine (flatSteps_acc HB.out _ (by assumption)).mono ?_
  rintro e w17 ⟨rfl, ho17⟩
  clear ho16
  go_wp2_with fail
  refine (flatRates_acc HB.out _ (by assumption)).mono ?_
  rintro e w18 ⟨rfl, ho18⟩
  clear ho17
  go_wp2_with fail
  refine (flatZones_acc HB.out _ (by assumption)).mono ?_
  rintro e w19 ⟨rfl, ho19⟩
  clear ho18
  go_wp2_with fail
  refine (flatLegs_acc HB.out _ (by assumption)).mono ?_
  rintro e w20 ⟨rfl, ho20⟩
  clear ho19
  go_wp2_with fail
  refine (flatNetworks_acc HB.out _ (by assumption)).mono ?_
  rintro e w21 ⟨rfl, ho21⟩
  clear ho20
  go_wp2_with fail
  refine (flatOrders_acc HB.out _ (by assumption)).mono ?_
  rintro e w22 ⟨rfl, ho22⟩
  clear ho21
  go_wp2_with fail
  refine (flatScans_acc HB.out _ (by assumption)).mono ?_
  rintro e w23 ⟨rfl, ho23⟩
  clear ho22
  go_wp2_with fail
  refine (flatGroups_acc HB.out _ (by assumption)).mono ?_
  rintro e w24 ⟨rfl, ho24⟩
  clear ho23
  go_wp2_with fail
  refine (flatBundles_acc HB.out _ (by assumption)).mono ?_
  rintro e w25 ⟨rfl, ho25⟩
  clear ho24
  go_wp2_with fail
  refine (flatTrays_acc HB.out _ (by assumption)).mono ?_
  rintro e w26 ⟨rfl, ho26⟩
  clear ho25
  go_wp2_with fail
  refine (flatContainers_acc HB.out _ (by assumption)).mono ?_
  rintro e w27 ⟨rfl, ho27⟩
  clear ho26
  go_wp2_with fail
  refine (flatLoads_acc HB.out _ (by assumption)).mono ?_
  rintro e w28 ⟨rfl, ho28⟩
  clear ho27
  go_wp2_with fail
  refine (flatLines_acc HB.out _ (by assumption)).mono ?_
  rintro e w29 ⟨rfl, ho29⟩
  clear ho28
  go_wp2_with fail
  refine (flatManifests_acc HB.out _ (by assumption)).mono ?_
  rintro e w30 ⟨rfl, ho30⟩
  clear ho29
  go_wp2_with fail
  refine (flatTariffs_acc HB.out _ (by assumption)).mono ?_
  rintro e w31 ⟨rfl, ho31⟩
  clear ho30
  go_wp2_with fail
  refine (flatStandards_acc HB.out _ (by assumption)).mono ?_
  rintro e w32 ⟨rfl, ho32⟩
  clear ho31
  go_wp2_with fail
  refine (flatSents_acc HB.out _ (by assumption)).mono ?_
  rintro e w33 ⟨rfl, ho33⟩
  clear ho32
  go_wp2_with fail
  go_ret
  exact ⟨rfl, ho33⟩

end Go.Proofs.YtpfinkdpaomliaaGreat
