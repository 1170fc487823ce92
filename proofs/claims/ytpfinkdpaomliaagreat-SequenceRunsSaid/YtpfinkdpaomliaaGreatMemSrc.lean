/-
  append of whatever source (a string's bytes, a slice, nil) to a slice of the call's own.
-/
import Derived.Test.YtpfinkdpaomliaaGreatMem
import Derived.Deep.AppendSrc
namespace Go.Proofs.YtpfinkdpaomliaaGreat
open Go.RowKit

/-- append: of whatever source. -/
theorem run_append_of {P : Program} (w : World) (t tx ty e : TypeId) (i : TypeInfo) (z : Value) (size bytes : Nat) (ht : P.underlying t = some (.slice e)) (hi : P.info? e = some i) (hz : i.zero = some z)
    (hsize : i.size = size) (hby : i.bytes = bytes) (hzs : z.cells.size = size)
    {ao : Option Addr} {n cap : Nat} {f : Nat → Value} (h : Sl w e size ao n cap f)
    (x : Value) (m : Nat) (news : List Value) (hsrc : Src P size tx x m news w)
    (h63 : n + m ≤ maxLen) (hbytes : (n + m) * bytes ≤ 140737488355328) :
    ∃ ao' cap' w', (Builtin.append_ #[t, tx] ty #[.slice ao n cap, x]).run P w = .ok (.slice ao' (n + m) cap') w' ∧
      Appended w w' e size ao n cap ao' (n + m) cap' (fun j => if j < n * size then f j else news.getD (j - n * size) undef) := by
  subst hsize
  subst hby
  have hl := hsrc.newsLen
  have h1 := hsrc.one
  have hsmall : n + m ≤ 9223372036854775807 := by simp only [maxLen] at h63; omega
  have grown : ∀ (old : Nat) (xs : List Value), old < n + m → xs.length = n * i.size → (∀ j, j < n * i.size → xs[j]? = some (f j)) → cap < n + m →
      Appended w (w.drew.alloc (.cells (xs.toArray ++ news.toArray ++ Builtin.zeroCells z.cells (grownCap w (n + m) old e - (n + m))) e)) e i.size ao n cap
        (some ⟨w.heap.size, 0, none⟩) (n + m) (grownCap w (n + m) old e) (fun j => if j < n * i.size then f j else news.getD (j - n * i.size) undef) := by
    intro old xs ho hxl hx hcap
    have hge := grownCap_ge w (n + m) old e
    refine ⟨Sl.new w.drew e i.size (n + m) _ _ _ hge (grownCap_le_maxLen w (n + m) old e h63) ?_ ?_, .inr ⟨hcap, rfl, ?_, by simp⟩⟩
    · simp only [Array.size_append, List.size_toArray, size_zeroCells, hzs, hxl, hl, ← Nat.add_mul]
      congr 1
      omega
    · intro j hj
      rw [Nat.add_mul] at hj
      by_cases hjn : j < n * i.size
      · rw [if_pos hjn, Array.getElem?_append, if_pos (by simp [hxl]; omega), Array.getElem?_append, if_pos (by simpa [hxl] using hjn)]
        simpa using hx j hjn
      · rw [if_neg hjn, Array.getElem?_append, if_pos (by simp [hxl]; omega), Array.getElem?_append, if_neg (by simpa [hxl] using hjn)]
        simp only [List.getElem?_toArray, List.size_toArray, hxl]
        rw [List.getElem?_eq_getElem (by omega), List.getD_eq_getElem?_getD, List.getElem?_eq_getElem (by omega)]
        rfl
    · exact ((Below.refl _ _).drew).alloc (Nat.le_refl _) _
  by_cases hroom : n + m ≤ cap
  · rcases h.2.2 with h0 | ⟨g, cur, rfl, hg, hs, hc⟩
    · have hm0 : m = 0 := by omega
      have hn0 : n = 0 := by omega
      subst hm0; subst hn0; subst h0
      have hn : news = [] := List.eq_nil_of_length_eq_zero (by simpa using hl)
      subst hn
      refine ⟨ao, 0, w, ?_, ⟨Sl.nil _ _ _ _ _, .inl ⟨rfl, rfl, World.grownBy.refl _ _, rfl⟩⟩⟩
      have hcl := hsrc.cells
      rcases hsrc.kind with ⟨e', hk⟩ | hk <;> cases ao <;> simp [Builtin.append_, run_underlying ht, run_underlying hk, sizeOf, typeInfo, hi, hsrc.len, hcl, storeCells]
    · have hfit : n * i.size + news.length ≤ cur.size := by rw [hl, hs, ← Nat.add_mul]; exact Nat.mul_le_mul_right _ hroom
      have hst := run_storeCells_at P g (n * i.size) e news 0 cur w hg (by simpa using hfit) h1
      simp only [Nat.add_zero] at hst
      have hcl := hsrc.cells
      have hr : (Builtin.append_ #[t, tx] ty #[.slice (some ⟨g, 0, none⟩) n cap, x]).run P w = .ok (.slice (some ⟨g, 0, none⟩) (n + m) cap) (w.setRow g (cur.toList.take (n * i.size) ++ news ++ cur.toList.drop (n * i.size + news.length)).toArray) := by
        rcases hsrc.kind with ⟨e', hk⟩ | hk <;> simp [Builtin.append_, run_underlying ht, run_underlying hk, sizeOf, typeInfo, hi, hsrc.len, hroom, hcl, Addr.add_lit, hst]
      have hpre : ∀ j, j < n * i.size → (cur.toList.take (n * i.size))[j]? = some (f j) := fun j hj => by
        rw [List.getElem?_take, if_pos hj]; simpa using hc j hj
      have hlen : (cur.toList.take (n * i.size)).length = n * i.size := by simp; omega
      by_cases hcap0 : cap = 0
      · have hm0 : m = 0 := by omega
        have hn0 : n = 0 := by omega
        subst hcap0 hm0 hn0
        have hn : news = [] := List.eq_nil_of_length_eq_zero (by simpa using hl)
        subst hn
        refine ⟨_, _, w, ?_, ⟨Sl.nil _ _ _ _ _, .inl ⟨rfl, rfl, World.grownBy.refl _ _, rfl⟩⟩⟩
        rcases hsrc.kind with ⟨e', hk⟩ | hk <;> simp [Builtin.append_, run_underlying ht, run_underlying hk, sizeOf, typeInfo, hi, hsrc.len, hcl, storeCells]
      refine ⟨_, _, _, hr, ⟨⟨hroom, h.2.1, .inr ⟨g, _, rfl, setRow_heap w g cur _ e _ hg, ?_, ?_⟩⟩, .inl ⟨rfl, rfl, ⟨rfl, rfl, rfl, by simp, fun k _ hk => setRow_other w g k _ (fun e => hk (by simp [rowOf, hcap0, e]))⟩, by simp⟩⟩⟩
      · simp only [List.size_toArray, List.length_append, List.length_take, List.length_drop, Array.length_toList]
        omega
      · intro j hj
        rw [Nat.add_mul] at hj
        simp only [List.getElem?_toArray]
        rw [List.append_assoc]
        by_cases hjn : j < n * i.size
        · rw [if_pos hjn, List.getElem?_append_left (by omega)]; exact hpre j hjn
        · rw [if_neg hjn, List.getElem?_append_right (by omega), hlen, List.getElem?_append_left (by omega), List.getElem?_eq_getElem (by omega), List.getD_eq_getElem?_getD, List.getElem?_eq_getElem (by omega)]
          rfl
  · have hxs : ∃ xs : List Value, xs.length = n * i.size ∧ (∀ j, j < n * i.size → xs[j]? = some (f j)) ∧ (Builtin.firstCells i.size n (.slice ao n cap)).run P w.drew = .ok xs.toArray w.drew := by
      rcases h.2.2 with h0 | ⟨g, cur, rfl, hg, hs, hc⟩
      · have hn0 : n = 0 := by have := h.1; omega
        subst hn0
        refine ⟨[], by simp, by intro j hj; simp at hj, ?_⟩
        cases ao with
        | none => exact run_firstCells_none w.drew i.size 0 0 cap
        | some ad => exact run_firstCells_some w.drew i.size 0 ad 0 cap [] (by simp) (by intro j u hu; simp at hu)
      · have hle : n * i.size ≤ cur.size := by rw [hs]; exact Nat.mul_le_mul_right _ h.1
        refine ⟨cur.toList.take (n * i.size), by simp; omega, fun j hj => by rw [List.getElem?_take, if_pos hj]; simpa using hc j hj, ?_⟩
        refine run_firstCells_some w.drew i.size n ⟨g, 0, none⟩ n cap _ (by simp; omega) fun j u hu => ?_
        rw [List.getElem?_take] at hu
        split at hu
        · have hadd : (⟨g, 0, none⟩ : Addr).add j = ⟨g, j, none⟩ := by unfold Addr.add; split <;> simp_all
          rw [hadd, World.cell?_drew, cell_of_row w g j cur e (0, 0) hg]
          simpa using hu
        · cases hu
    obtain ⟨xs, hxl, hx, holds⟩ := hxs
    have hr := run_append_grow_src (P := P) w t tx ty e i z ht hi hz ao n cap xs holds x m news hsrc (by omega) (by omega) (growslice_fits (by omega) hbytes)
    rw [show (xs ++ news).toArray = xs.toArray ++ news.toArray from by simp] at hr
    exact ⟨_, _, _, hr, grown cap xs (by omega) hxl hx (by omega)⟩

/-- The same as a law of the walk. -/
theorem wpList_append_of {P : Program} (w : World) {ops : Array Oper} {rest : List Oper} {o : Oper} {a : Act} {Q : Exit → Act → World → Prop} (hgd : o.guard = none) (s x : Operand) (t tx : TypeId)
    (ho : o.op = .call { callee := .builtin .append, args := #[s, x], argTypes := #[t, tx] })
    (e : TypeId) (i : TypeInfo) (z : Value) (size bytes : Nat) (ht : P.underlying t = some (.slice e)) (hi : P.info? e = some i) (hz : i.zero = some z)
    (hsize : i.size = size) (hby : i.bytes = bytes) (hzs : z.cells.size = size)
    {ao : Option Addr} {n cap : Nat} {f : Nat → Value} (hs : a.eval s = .slice ao n cap) (h : Sl w e size ao n cap f)
    (xv : Value) (hx : a.eval x = xv) (m : Nat) (news : List Value) (hsrc : Src P size tx xv m news w)
    (h63 : n + m ≤ maxLen) (hbytes : (n + m) * bytes ≤ 140737488355328)
    (hk : ∀ ao' cap' w', Appended w w' e size ao n cap ao' (n + m) cap' (fun j => if j < n * size then f j else news.getD (j - n * size) undef) → wpList P ops Q rest (a.put o.dst (.slice ao' (n + m) cap')) w') :
    wpList P ops Q (o :: rest) a w := by
  refine wpList_plain hgd fun K hK => ?_
  obtain ⟨ao', cap', w', hr, h2⟩ := run_append_of (P := P) w t tx o.type e i z size bytes ht hi hz hsize hby hzs h xv m news hsrc h63 hbytes
  unfold Oper.wp execOp
  simp only [ho, resolve, invoke, builtin, Sem.run_bind, Sem.run_pure, Result.andThen_ok, List.map_toArray, List.map_cons, List.map_nil, hs, hx, hr]
  exact hK _ _ (hk ao' cap' w' h2)

end Go.Proofs.YtpfinkdpaomliaaGreat
