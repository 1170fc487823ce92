/-
  Two, three lists of the call's own in a slice literal: what 'Apart..' asks of them.
-/
import Derived.Test.YtpfinkdpaomliaaGreatFlatLib
namespace Go.Proofs.YtpfinkdpaomliaaGreat
open Go.RowKit

def pick2 {α : Type} (x y : α) : Nat → α
  | 0 => x
  | _ => y
def pick3 {α : Type} (x y z : α) : Nat → α
  | 0 => x
  | 1 => y
  | _ => z

theorem lt2 {k : Nat} (h : k < 2) : k = 0 ∨ k = 1 := by omega
theorem lt3 {k : Nat} (h : k < 3) : k = 0 ∨ k = 1 ∨ k = 2 := by omega

theorem dist2 {a b : Option Addr} {c d : Nat} {s : Nat} (h0 : ∀ g, rowOf a c = some g → g < s) (h1 : ∀ g, rowOf b d = some g → s ≤ g) : Dist 2 (pick2 a b) (pick2 c d) := by
  intro j k hj hk hne g hg hg'
  rcases lt2 hj with rfl | rfl <;> rcases lt2 hk with rfl | rfl <;> first | exact hne rfl | skip
  · have := h0 g hg; have := h1 g hg'; omega
  · have := h1 g hg; have := h0 g hg'; omega
theorem dist3 {a b x : Option Addr} {c d y : Nat} {s t : Nat} (h0 : ∀ g, rowOf a c = some g → g < s) (h1 : ∀ g, rowOf b d = some g → s ≤ g ∧ g < t) (h2 : ∀ g, rowOf x y = some g → t ≤ g) (hst : s ≤ t) :
    Dist 3 (pick3 a b x) (pick3 c d y) := by
  intro j k hj hk hne g hg hg'
  rcases lt3 hj with rfl | rfl | rfl <;> rcases lt3 hk with rfl | rfl | rfl <;> first | exact hne rfl | skip
  · have := h0 g hg; have := h1 g hg'; omega
  · have := h0 g hg; have := h2 g hg'; omega
  · have := h1 g hg; have := h0 g hg'; omega
  · have := h1 g hg; have := h2 g hg'; omega
  · have := h2 g hg; have := h0 g hg'; omega
  · have := h2 g hg; have := h1 g hg'; omega

theorem slits2 (w : World) (e : TypeId) (a b : Option Addr) (l m c d : Nat) :
    Sl (w.alloc (.cells #[.slice a l c, .slice b m d] e)) e 1 (some ⟨w.heap.size, 0, none⟩) 2 2 (fun k => .slice (pick2 a b k) (pick2 l m k) (pick2 c d k)) :=
  Sl.new w e 1 2 2 _ _ (Nat.le_refl _) (by unfold maxLen; omega) rfl (fun i hi => by
    have : i = 0 ∨ i = 1 := by omega
    rcases this with rfl | rfl <;> rfl)
theorem slits3 (w : World) (e : TypeId) (a b x : Option Addr) (l m n c d y : Nat) :
    Sl (w.alloc (.cells #[.slice a l c, .slice b m d, .slice x n y] e)) e 1 (some ⟨w.heap.size, 0, none⟩) 3 3 (fun k => .slice (pick3 a b x k) (pick3 l m n k) (pick3 c d y k)) :=
  Sl.new w e 1 3 3 _ _ (Nat.le_refl _) (by unfold maxLen; omega) rfl (fun i hi => by
    have : i = 0 ∨ i = 1 ∨ i = 2 := by omega
    rcases this with rfl | rfl | rfl <;> rfl)
theorem fam2 {w : World} {e : TypeId} {a b : Option Addr} {l m c d : Nat} {f g : Nat → Value} (h0 : Sl w e 1 a l c f) (h1 : Sl w e 1 b m d g) :
    ∀ k, k < 2 → Sl w e 1 (pick2 a b k) (pick2 l m k) (pick2 c d k) (pick2 f g k) := by
  intro k hk
  rcases lt2 hk with rfl | rfl
  · exact h0
  · exact h1
theorem fam3 {w : World} {e : TypeId} {a b x : Option Addr} {l m n c d y : Nat} {f g h : Nat → Value} (h0 : Sl w e 1 a l c f) (h1 : Sl w e 1 b m d g) (h2 : Sl w e 1 x n y h) :
    ∀ k, k < 3 → Sl w e 1 (pick3 a b x k) (pick3 l m n k) (pick3 c d y k) (pick3 f g h k) := by
  intro k hk
  rcases lt3 hk with rfl | rfl | rfl
  · exact h0
  · exact h1
  · exact h2
theorem len2 {l m N : Nat} (h0 : l ≤ N) (h1 : m ≤ N) : ∀ k, k < 2 → pick2 l m k ≤ N := by
  intro k hk
  rcases lt2 hk with rfl | rfl
  · exact h0
  · exact h1
theorem len3 {l m n N : Nat} (h0 : l ≤ N) (h1 : m ≤ N) (h2 : n ≤ N) : ∀ k, k < 3 → pick3 l m n k ≤ N := by
  intro k hk
  rcases lt3 hk with rfl | rfl | rfl
  · exact h0
  · exact h1
  · exact h2
end Go.Proofs.YtpfinkdpaomliaaGreat
