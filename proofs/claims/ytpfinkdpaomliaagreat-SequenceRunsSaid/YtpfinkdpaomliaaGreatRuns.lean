/-
  Runs of both kinds, whether they fail or not; append of whatever source as a step of a region that draws; slices of slices joined.
-/
import Derived.Test.YtpfinkdpaomliaaGreatGiven
import Derived.Test.YtpfinkdpaomliaaGreatStep
namespace Go.Proofs.YtpfinkdpaomliaaGreat
open Go.RowKit

theorem step_append_of {P : Program} {w : World} {ops : Array Oper} {o : Oper} {a : Act} {K : Act → World → Prop} {Q : Exit → Act → World → Prop} {E : Prop} (hgd : o.guard = none) (s x : Operand) (t tx : TypeId)
    (ho : o.op = .call { callee := .builtin .append, args := #[s, x], argTypes := #[t, tx] })
    (e : TypeId) (i : TypeInfo) (z : Value) (size bytes : Nat) (ht : P.underlying t = some (.slice e)) (hi : P.info? e = some i) (hz : i.zero = some z)
    (hsize : i.size = size) (hby : i.bytes = bytes) (hzs : z.cells.size = size)
    {ao : Option Addr} {n cap : Nat} {f : Nat → Value} (hs : a.eval s = .slice ao n cap) (h : Sl w e size ao n cap f)
    (xv : Value) (hx : a.eval x = xv) (m : Nat) (news : List Value) (hsrc : Src P size tx xv m news w)
    (h63 : n + m ≤ maxLen) (hbytes : (n + m) * bytes ≤ 140737488355328)
    (hk : ∀ ao' cap' w', Appended w w' e size ao n cap ao' (n + m) cap' (fun j => if j < n * size then f j else news.getD (j - n * size) undef) → K (a.put o.dst (.slice ao' (n + m) cap')) w') :
    if Region.wanted o (yielded ops a.tmps) = true then Oper.wp P o a w K Q else E := by
  have hw : Region.wanted o (yielded ops a.tmps) = true := by simp [Region.wanted, hgd]
  rw [if_pos hw]
  obtain ⟨ao', cap', w', hr, h2⟩ := run_append_of (P := P) w t tx o.type e i z size bytes ht hi hz hsize hby hzs h xv m news hsrc h63 hbytes
  unfold Oper.wp execOp
  simp only [ho, resolve, invoke, builtin, Sem.run_bind, Sem.run_pure, Result.andThen_ok, List.map_toArray, List.map_cons, List.map_nil, hs, hx, hr]
  exact hk ao' cap' w' h2

theorem slcs_flat (ts : List Slc) (k : Nat) (hk : k < ts.length) : (ts.flatMap slcC)[k]? = some (.slice (ts.getD k slcD).ao (ts.getD k slcD).n (ts.getD k slcD).cap) := by
  have := flat_at slcE slcD ts k 0 (by omega) hk
  rw [Nat.mul_one, Nat.add_zero] at this
  exact this
theorem ownS_app {B n m n' cap cap' : Nat} {w w1 : World} {ao ao' : Option Addr} {ss ts : List Slc} {news : List Value} {f : Nat → Value} (h : OwnL 1 slcC slcD 23 B w ao n cap ss) (hB : B ≤ w.heap.size) (hn : n' = n + m) (hm : ts.length = m)
    (hx : news = ts.flatMap slcC) (hf : ∀ j, j < n + m → f j = if j < n then cellsF 1 slcC slcD ss j else news[j - n]?.getD undef) (ha : Appended w w1 23 1 ao n cap ao' n' cap' f) : OwnL 1 slcC slcD 23 B w1 ao' n' cap' (ss ++ ts) := by
  subst hn hx
  have hl := h.len
  refine ⟨ha.sl.congr fun j hj => ?_, by rw [List.length_append, h.len, hm], fun g hg => ?_⟩
  · rw [hf j (by omega), cellsF_slc, cellsF_slc]
    by_cases e : j < n
    · rw [if_pos e, getD_app_l _ _ _ _ (by omega)]
    · rw [if_neg e, getD_app_r _ _ _ _ (by omega), hl, slcs_flat ts (j - n) (by omega)]
      rfl
  · rcases app_row ha g hg with h1 | rfl
    · exact h.row g h1
    · exact hB
theorem ownS_one (w : World) (s : Slc) : OwnL 1 slcC slcD 23 w.heap.size (w.alloc (.cells #[.slice s.ao s.n s.cap] 23)) (some ⟨w.heap.size, 0, none⟩) 1 1 [s] := by
  refine ⟨Sl.new w 23 1 1 1 _ _ (Nat.le_refl _) (by unfold maxLen; omega) rfl fun i hi => ?_, rfl, fun g hg => by rw [rowOf_new hg]; exact Nat.le_refl _⟩
  have : i = 0 := by omega
  subst this
  rfl

def RF1 (p : PlanP) (items : List Int) : List (List Int) := if sortErr p items = 0 then famN (pass1 p items) else []
def RF2 (p : PlanP) (items : List Int) : List (List Int) := if sortErr p items = 0 then famN (pass2 p items) else []
def RYS (p : PlanP) (items : List Int) : List Int := if sortErr p items = 0 then natI (pass2 p items).flatten else []

/-- The package's run, whether it fails or not. -/
theorem runU {B : Nat} {w : World} {e : Ending} {n : Nat} {p : PlanP} {items : List Int} (h : SortR2 B w e n p items) : ∃ (s1 s2 s3 : Slc) (ss1 ss2 : List Slc) (M S : Nat),
    e = .returned (.tuple #[.agg #[.slice s1.ao s1.n s1.cap, .slice s2.ao s2.n s2.cap, .slice s3.ao s3.n s3.cap], .int .i64 (sortErr p items)]) ∧ OwnL 1 slcC slcD 23 B w s1.ao s1.n s1.cap ss1 ∧ Fam B w ss1 (RF1 p items) ∧
    OwnL 1 slcC slcD 23 M w s2.ao s2.n s2.cap ss2 ∧ Fam M w ss2 (RF2 p items) ∧ OwnI S w s3.ao s3.n s3.cap (RYS p items) ∧ B ≤ M ∧ M ≤ S ∧ (∀ k, k < (RF1 p items).length → ∀ g, rowAt ss1 k = some g → g < M) ∧ (∀ k, k < (RF2 p items).length → ∀ g, rowAt ss2 k = some g → g < S) := by
  rcases h with ⟨h0, rfl⟩ | ⟨h0, b1, ss1, b2, ss2, bo, N, cap, M, S, rfl, h1, h2, h3, hBM, hMS, hr1, hr2⟩
  · refine ⟨slcD, slcD, slcD, [], [], B, B, rfl, OwnL.nil _ _ _ _, ?_, OwnL.nil _ _ _ _, ?_, ?_, Nat.le_refl _, Nat.le_refl _, ?_, ?_⟩
    · unfold RF1; rw [if_neg h0]; exact Fam.nil _ _
    · unfold RF2; rw [if_neg h0]; exact Fam.nil _ _
    · unfold RYS; rw [if_neg h0]; exact OwnI.nil _ _ _
    · unfold RF1; rw [if_neg h0]; exact fun k hk => absurd hk (Nat.not_lt_zero _)
    · unfold RF2; rw [if_neg h0]; exact fun k hk => absurd hk (Nat.not_lt_zero _)
  · have e1 : RF1 p items = famN (pass1 p items) := if_pos h0
    have e2 : RF2 p items = famN (pass2 p items) := if_pos h0
    have e3 : RYS p items = natI (pass2 p items).flatten := if_pos h0
    rw [e1, e2, e3, h0]
    exact ⟨⟨some ⟨b1, 0, none⟩, n, n⟩, ⟨some ⟨b2, 0, none⟩, n, n⟩, ⟨bo, N, cap⟩, ss1, ss2, M, S, rfl, h1.sl, h1.fam, h2.sl, h2.fam, h3, hBM, hMS, fun k hk g hg => hr1 k (by rw [h1.len] at hk; exact hk) g hg, fun k hk g hg => hr2 k (by rw [h2.len] at hk; exact hk) g hg⟩
/-- The reference's. -/
theorem refU {w : World} {e : Ending} {n : Nat} {p : PlanP} {items : List Int} (h : RefSortR w e n p items) : ∃ (s1 s2 s3 : Slc) (ss1 ss2 : List Slc),
    e = .returned (.tuple #[.agg #[.slice s1.ao s1.n s1.cap, .slice s2.ao s2.n s2.cap, .slice s3.ao s3.n s3.cap], .int .i64 (sortErr p items)]) ∧ RdL 1 slcC slcD w s1.ao s1.n ss1 ∧ RdFam w ss1 (RF1 p items) ∧
    RdL 1 slcC slcD w s2.ao s2.n ss2 ∧ RdFam w ss2 (RF2 p items) ∧ Ints w s3.ao s3.n (RYS p items) := by
  rcases h with ⟨h0, rfl⟩ | ⟨h0, v1, v2, v3, ss1, ss2, rfl, _, _, h1, h2, h3, h4, h5⟩
  · refine ⟨slcD, slcD, slcD, [], [], rfl, RdL.nil _ _, ?_, RdL.nil _ _, ?_, ?_⟩
    · unfold RF1; rw [if_neg h0]; exact RdFam.nil _
    · unfold RF2; rw [if_neg h0]; exact RdFam.nil _
    · unfold RYS; rw [if_neg h0]; exact ⟨Rd.nil _ _ _ _, rfl⟩
  · have e1 : RF1 p items = famN (pass1 p items) := if_pos h0
    have e2 : RF2 p items = famN (pass2 p items) := if_pos h0
    have e3 : RYS p items = natI (pass2 p items).flatten := if_pos h0
    rw [e1, e2, e3, h0]
    exact ⟨v1, v2, v3, ss1, ss2, rfl, h1, h2, h3, h4, h5⟩
theorem mem_len_flat {α : Type} : ∀ (xs : List (List α)) (k : Nat), (xs.getD k []).length ≤ xs.flatten.length
  | [], k => by simp
  | x :: xs, 0 => by simp
  | x :: xs, k + 1 => by
    have := mem_len_flat xs k
    simp only [List.flatten_cons, List.length_append]
    rw [show (x :: xs).getD (k + 1) [] = xs.getD k [] by simp]
    omega
theorem famN_getD (xs : List (List Nat)) (k : Nat) : ((famN xs).getD k []).length = (xs.getD k []).length := by
  by_cases h : k < xs.length
  · rw [famN_at _ _ h, natI_len]
  · rw [List.getD_eq_getElem?_getD, List.getD_eq_getElem?_getD, List.getElem?_eq_none (by rw [famN_len]; omega), List.getElem?_eq_none (by omega)]
    rfl
theorem sort_lens (p : PlanP) (items : List Int) : (RF1 p items).length ≤ p.caps.length ∧ (RF2 p items).length = (RF1 p items).length ∧ (RYS p items).length ≤ items.length ∧ (∀ k, ((RF1 p items).getD k []).length ≤ items.length) ∧ (∀ k, ((RF2 p items).getD k []).length ≤ items.length) := by
  by_cases h0 : sortErr p items = 0
  · have e1 : RF1 p items = famN (pass1 p items) := if_pos h0
    have e2 : RF2 p items = famN (pass2 p items) := if_pos h0
    have e3 : RYS p items = natI (pass2 p items).flatten := if_pos h0
    rw [e1, e2, e3]
    unfold sortErr at h0
    have hch : (checkP p).2 = 0 := by
      by_cases h : (checkP p).2 = 0
      · exact h
      · rw [if_pos h] at h0; exact absurd h0 h
    rw [if_neg (by omega)] at h0
    have hl2 : ¬ 2000 < items.length := fun h => by rw [if_pos h] at h0; exact absurd h0 (by decide)
    rw [if_neg hl2] at h0
    obtain ⟨_, _, hg⟩ := check_ok hch
    have hh := feed_has h0
    have f1 : (pass1 p items).flatten.length = items.length := by
      unfold pass1
      rw [pass_flat_eq _ _ _ (fun f hf => (sel_ok hg hh (List.mem_range.1 hf)).2.2.1), List.length_range]
    have f2 : (pass2 p items).flatten.length = items.length := by
      unfold pass2
      rw [pass_flat_eq _ _ _ (fun f hf => (sel_ok hg hh (by unfold pass1 at hf; exact List.mem_range.1 (pass_mem hf))).2.2.2), f1]
    have l1 : (famN (pass1 p items)).length = p.caps.length := by rw [famN_len]; unfold pass1; rw [pass_len]
    have l2 : (famN (pass2 p items)).length = p.caps.length := by rw [famN_len]; unfold pass2; rw [pass_len]
    refine ⟨by omega, by omega, by rw [natI_len]; omega, fun k => ?_, fun k => ?_⟩
    · rw [famN_getD]; have := mem_len_flat (pass1 p items) k; omega
    · rw [famN_getD]; have := mem_len_flat (pass2 p items) k; omega
  · have e1 : RF1 p items = [] := if_neg h0
    have e2 : RF2 p items = [] := if_neg h0
    have e3 : RYS p items = [] := if_neg h0
    rw [e1, e2, e3]
    simp
end Go.Proofs.YtpfinkdpaomliaaGreat
