/-
  'ApartTexts' of two, of three lists of the call's own: true; nothing that was there before them has changed.
-/
import Derived.Test.YthpjkfcaabhdhaaGreatLits
import Derived.Test.YthpjkfcaabhdhaaGreatApartTexts
namespace Go.Proofs.YthpjkfcaabhdhaaGreat
open Go.RowKit

theorem apartTexts2 (w : World) (B s : Nat) (a b : Option Addr) (l m c d : Nat) (f g : Nat → Value) (h0 : Sl w 9 1 a l c f) (h1 : Sl w 9 1 b m d g) (hl : l ≤ 1048576) (hm : m ≤ 1048576)
    (r0 : ∀ x, rowOf a c = some x → B ≤ x ∧ x < s) (r1 : ∀ x, rowOf b d = some x → s ≤ x) (hs : B ≤ s) (hB : B ≤ w.heap.size) :
    Calls Tryz.prog 7 #[.slice (some ⟨w.heap.size, 0, none⟩) 2 2] (w.alloc (.cells #[.slice a l c, .slice b m d] 25)) fun e w' =>
      e = .returned (.bool true) ∧ Below B (w.alloc (.cells #[.slice a l c, .slice b m d] 25)) w' := by
  refine (ApartTexts_any 2 2 _ _ _ _ _ _ (by omega) (len2 hl hm) (slits2 w _ a b l m c d) (fam2 (h0.alloc _) (h1.alloc _)) (dist2 (s := s) (fun x hx => (r0 x hx).2) r1)).mono ?_
  rintro e w' ⟨rfl, ho⟩
  refine ⟨rfl, ho.below (by simp; omega) ?_⟩
  rintro x (⟨k, hk, hx⟩ | hx)
  · rcases lt2 hk with rfl | rfl
    · exact (r0 x hx).1
    · exact Nat.le_trans hs (r1 x hx)
  · simp at hx; omega
theorem apartTexts3 (w : World) (B s t : Nat) (a b z : Option Addr) (l m n c d y : Nat) (f g h : Nat → Value) (h0 : Sl w 9 1 a l c f) (h1 : Sl w 9 1 b m d g) (h2 : Sl w 9 1 z n y h)
    (hl : l ≤ 1048576) (hm : m ≤ 1048576) (hn : n ≤ 1048576)
    (r0 : ∀ x, rowOf a c = some x → B ≤ x ∧ x < s) (r1 : ∀ x, rowOf b d = some x → s ≤ x ∧ x < t) (r2 : ∀ x, rowOf z y = some x → t ≤ x) (hs : B ≤ s) (hst : s ≤ t) (hB : B ≤ w.heap.size) :
    Calls Tryz.prog 7 #[.slice (some ⟨w.heap.size, 0, none⟩) 3 3] (w.alloc (.cells #[.slice a l c, .slice b m d, .slice z n y] 25)) fun e w' =>
      e = .returned (.bool true) ∧ Below B (w.alloc (.cells #[.slice a l c, .slice b m d, .slice z n y] 25)) w' := by
  refine (ApartTexts_any 3 3 _ _ _ _ _ _ (by omega) (len3 hl hm hn) (slits3 w _ a b z l m n c d y) (fam3 (h0.alloc _) (h1.alloc _) (h2.alloc _)) (dist3 (s := s) (t := t) (fun x hx => (r0 x hx).2) r1 r2 hst)).mono ?_
  rintro e w' ⟨rfl, ho⟩
  refine ⟨rfl, ho.below (by simp; omega) ?_⟩
  rintro x (⟨k, hk, hx⟩ | hx)
  · rcases lt3 hk with rfl | rfl | rfl
    · exact (r0 x hx).1
    · exact Nat.le_trans hs (r1 x hx).1
    · exact Nat.le_trans hs (Nat.le_trans hst (r2 x hx))
  · simp at hx; omega
end Go.Proofs.YthpjkfcaabhdhaaGreat
