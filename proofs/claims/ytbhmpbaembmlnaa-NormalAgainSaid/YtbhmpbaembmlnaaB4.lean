/- append of one slice to another, at things of several cells. -/
import Derived.Test.YtbhmpbaembmlnaaB3
import Derived.ArgAppend
import Derived.Lib.AppendZeros
set_option linter.unusedVariables false
namespace Go.Proofs.Ytbhmpbaembmlnaa
open Go.RowKit

/-- The cells of a row that is read. -/
theorem Row.cells {α : Type} {E : El α} {w : World} {S : Nat → Prop} {g off : Nat} {xs : List α} (h : Row E w S (some ⟨g, off, none⟩) xs) :
    ∃ css : List (List Value), css.length = xs.length ∧ (∀ (j : Nat) (x : α) (cs : List Value), xs[j]? = some x → css[j]? = some cs → E.R w S x cs) ∧ css.flatten.length = xs.length * E.size ∧
      (∀ (j : Nat) (u : Value), css.flatten[j]? = some u → w.cell? ⟨g, off + j, none⟩ = some u) ∧ (∀ u ∈ css.flatten, u.oneCell' = true) := by
  obtain ⟨css, hl, hp⟩ := list_choose (p := fun j x cs => CellsAt w g (off + j * E.size) cs ∧ E.R w S x cs) xs (fun j x hx => by
    obtain ⟨g', off', cs, hA, _, _, hc, hr⟩ := h.get hx
    injection hA with hA
    injection hA with h1 h2
    subst h1; subst h2
    exact ⟨cs, hc, hr⟩)
  have hm : ∀ cs ∈ css, cs.length = E.size := by
    intro cs hcs
    obtain ⟨j, hj, rfl⟩ := List.mem_iff_getElem.1 hcs
    obtain ⟨x, hx⟩ := get_some (l := xs) (k := j) (by omega)
    exact E.len (hp j x _ hx (List.getElem?_eq_getElem hj)).2
  refine ⟨css, hl, fun j x cs hx hcs => (hp j x cs hx hcs).2, ?_, ?_, ?_⟩
  · rw [← hl]
    clear hp hl
    induction css with
    | nil => simp
    | cons c css ih =>
      rw [List.flatten_cons, List.length_append, ih (fun cs hcs => hm cs (by simp [hcs])), hm c (by simp), List.length_cons, Nat.succ_mul]; omega
  · intro j u hu
    have hpos := E.pos
    have hj : j / E.size * E.size + j % E.size = j := by rw [Nat.mul_comm]; exact Nat.div_add_mod j E.size
    rw [← hj, flatten_get (Nat.mod_lt _ hpos) hm] at hu
    obtain ⟨cs, hcs, hu⟩ := Option.bind_eq_some_iff.1 hu
    obtain ⟨x, hx⟩ := get_some (l := xs) (k := j / E.size) (by have := get_lt hcs; omega)
    have := (hp _ x cs hx hcs).1 _ u hu
    rw [Nat.add_assoc, hj] at this
    exact this
  · intro u hu
    obtain ⟨cs, hcs, hu⟩ := List.mem_flatten.1 hu
    obtain ⟨j, hj, rfl⟩ := List.mem_iff_getElem.1 hcs
    obtain ⟨x, hx⟩ := get_some (l := xs) (k := j) (by omega)
    exact E.one (hp j x _ hx (List.getElem?_eq_getElem hj)).2 u hu

section
variable {P : Program}

/-- append(v, nothing). -/
theorem run_append_zero (w : World) (t ty e : TypeId) (i : TypeInfo) (ht : P.underlying t = some (.slice e)) (hi : P.info? e = some i) (A B : Option Addr) (n cap c : Nat) (h : n ≤ cap) :
    (Builtin.append_ #[t, t] ty #[.slice A n cap, .slice B 0 c]).run P w = .ok (.slice A n cap) w := by
  cases A <;> cases B <;> simp [Builtin.append_, run_underlying ht, sizeOf, typeInfo, hi, Builtin.lenOf, Builtin.firstCells, loadCells, loadCellsFrom, h, storeCells]

/-- What an append leaves that another will be put behind: either nothing was done, or a row of one's own. -/
def Half {α : Type} (E : El α) (e : TypeId) (S : Nat → Prop) (w w1 : World) (v1 : Value) (xs : List α) : Prop :=
  (w1 = w ∧ ∃ g off, v1 = .slice (some ⟨g, off, none⟩) xs.length xs.length ∧ Sl E w S v1 xs) ∨ Made E w1 w.heap.size e (fun k => S k ∧ k < w.heap.size) v1 xs

theorem Half.fin {α : Type} {E : El α} {e : TypeId} {S : Nat → Prop} {w w1 : World} {v1 : Value} {xs : List α} (h : Half E e S w w1 v1 xs) : Sl E w1 (fun k => S k ∨ w.heap.size ≤ k) v1 xs := by
  rcases h with ⟨rfl, g, off, rfl, h⟩ | h
  · exact h.mono fun k hk _ => .inl hk
  · refine h.reads.mono fun k hk _ => ?_
    rcases hk with hk | hk
    · exact .inl hk.1
    · exact .inr (h.lt k hk).1

/-- append(v, u), v full. -/
theorem run_append_full {α : Type} (E : El α) (w : World) (t ty e : TypeId) (z : Value) (bytes : Nat) (ht : P.underlying t = some (.slice e)) (hinfo : (P.info? e).map (fun i => (i.zero, i.size, i.bytes)) = some (some z, E.size, bytes)) (hz : z.cells.size = E.size)
    {g off : Nat} {u : Value} {xs ys : List α} {S : Nat → Prop} (hv : Sl E w S (.slice (some ⟨g, off, none⟩) xs.length xs.length) xs) (hu : Sl E w S u ys) (hn : xs.length + ys.length ≤ maxLen) (hl : (xs.length + ys.length) * bytes ≤ 140737488355328) :
    ∃ v1 w1, (Builtin.append_ #[t, t] ty #[.slice (some ⟨g, off, none⟩) xs.length xs.length, u]).run P w = .ok v1 w1 ∧ Fr w w1 ∧ Half E e S w w1 v1 (xs ++ ys) ∧ (ys ≠ [] → Made E w1 w.heap.size e (fun k => S k ∧ k < w.heap.size) v1 (xs ++ ys)) := by
  obtain ⟨i, hi, hzz⟩ := Option.map_eq_some_iff.1 hinfo
  simp only [Prod.mk.injEq] at hzz
  obtain ⟨hz0, hz1, hz2⟩ := hzz
  obtain ⟨B, c, rfl, hc, hr⟩ := hu
  cases hys : ys with
  | nil =>
    subst hys
    refine ⟨_, w, run_append_zero w t ty e i ht hi _ B _ _ c (Nat.le_refl _), Fr.refl w, .inl ⟨rfl, g, off, ?_, ?_⟩, fun h => absurd rfl h⟩
    · simp
    · simpa using hv
  | cons y ys' =>
    have hne : ys ≠ [] := by rw [hys]; simp
    rw [← hys]
    obtain ⟨g2, off2, rfl, -⟩ := hr hne
    obtain ⟨news, hnl, hnr, hnf, hnc, hn1⟩ := Row.cells hr
    obtain ⟨A', cap', hA, -, hrx⟩ := hv
    injection hA with hA1 hA2 hA3
    subst hA1
    obtain ⟨olds, hol, hor, hof, hoc, ho1⟩ := Row.cells hrx
    have hlen : 0 < ys.length := List.length_pos_iff.2 hne
    obtain ⟨v1, w1, hrun, hown, hgrow⟩ := run_append_arg_grows (P := P) w t ty e i z E.size bytes ht hi hz0 hz1 hz2 hz E.pos ⟨g, off, none⟩ xs.length xs.length olds.flatten hof (fun j u hj => by rw [add_plain]; exact hoc j u hj) ⟨g2, off2, none⟩ ys.length c news.flatten hnf (fun j u hj => by rw [add_plain]; exact hnc j u hj) (by omega) hn hl
    have hF : Fr w w1 := (Fr.refl w).own hgrow (fun k h => by cases h)
    suffices hM : Made E w1 w.heap.size e (fun k => S k ∧ k < w.heap.size) v1 (xs ++ ys) from ⟨v1, w1, hrun, hF, .inr hM, fun _ => hM⟩
    refine ⟨olds ++ news, by simpa using hown, by simp [hol, hnl], ?_⟩
    have hne2 : ∀ k, k < w.heap.size → v1.ownBlock ≠ some k := fun k hk he => by have := hown.lt k he; omega
    have fin : ∀ {x : α} {c : List Value}, E.R w S x c → E.R w1 (fun k => (S k ∧ k < w.heap.size) ∧ v1.ownBlock ≠ some k) x c := fun hR =>
      E.keep (E.mono hR (S' := fun k => (S k ∧ k < w.heap.size) ∧ v1.ownBlock ≠ some k) fun k hs hk => ⟨⟨hs, hk⟩, hne2 k hk⟩) hF.keeps.all
    intro j x cs hx hcs
    by_cases hj : j < xs.length
    · rw [List.getElem?_append_left hj] at hx
      rw [List.getElem?_append_left (by omega)] at hcs
      exact fin (hor j x cs hx hcs)
    · rw [List.getElem?_append_right (by omega)] at hx
      rw [List.getElem?_append_right (by omega), hol] at hcs
      exact fin (hnr _ x cs hx hcs)

/-- append(append(..), u). -/
theorem run_append_half {α : Type} (E : El α) (w : World) (t ty e : TypeId) (z : Value) (bytes : Nat) (ht : P.underlying t = some (.slice e)) (hinfo : (P.info? e).map (fun i => (i.zero, i.size, i.bytes)) = some (some z, E.size, bytes)) (hz : z.cells.size = E.size)
    {v1 u : Value} {w1 : World} {xs ys : List α} {S : Nat → Prop} (hF : Fr w w1) (hv : Half E e S w w1 v1 xs) (hu : Sl E w S u ys) (hn : xs.length + ys.length ≤ maxLen) (hl : (xs.length + ys.length) * bytes ≤ 140737488355328) :
    ∃ v2 w2, (Builtin.append_ #[t, t] ty #[v1, u]).run P w1 = .ok v2 w2 ∧ Fr w w2 ∧ Sl E w2 (fun k => S k ∨ w.heap.size ≤ k) v2 (xs ++ ys) := by
  rcases hv with ⟨rfl, g, off, rfl, hv⟩ | hv
  · obtain ⟨v2, w2, h1, h2, h3, -⟩ := run_append_full (P := P) E w1 t ty e z bytes ht hinfo hz hv hu hn hl
    exact ⟨v2, w2, h1, h2, h3.fin⟩
  · obtain ⟨i, hi, hzz⟩ := Option.map_eq_some_iff.1 hinfo
    simp only [Prod.mk.injEq] at hzz
    obtain ⟨hz0, hz1, hz2⟩ := hzz
    obtain ⟨B, c, rfl, hc, hr⟩ := hu
    by_cases hne : ys = []
    · subst hne
      obtain ⟨A, cap, rfl, hcap⟩ := hv.slice
      refine ⟨_, w1, run_append_zero w1 t ty e i ht hi A B _ cap c hcap, hF, ?_⟩
      have := (Half.fin (S := S) (.inr hv) : Sl E w1 _ _ xs)
      simpa using this
    · obtain ⟨g2, off2, rfl, -⟩ := hr hne
      obtain ⟨news, hnl, hnr, hnf, hnc, hn1⟩ := Row.cells hr
      obtain ⟨olds, hown, hol, hor⟩ := hv
      obtain ⟨v2, w2, hrun, hown2, hgrow, -, hat⟩ := run_append_own_at (P := P) w1 w.heap.size t ty e i z E.size bytes ht hi hz0 hz1 hz2 hz E.pos v1 xs.length olds.flatten hown ⟨g2, off2, none⟩ ys.length c news.flatten hnf (fun j u hj => by rw [add_plain]; exact hF.keeps.cell trivial (hnc j u hj)) hn1 hn hl hF.size
      have hF2 : Fr w w2 := hF.own hgrow (fun k h => (hown.lt k h).1)
      have hM : Made E w2 w.heap.size e (fun k => S k ∧ k < w.heap.size) v2 (xs ++ ys) := by
        refine ⟨olds ++ news, by simpa using hown2, by simp [hol, hnl], ?_⟩
        have hne2 : ∀ k, k < w.heap.size → v2.ownBlock ≠ some k := fun k hk he => by have := hown2.lt k he; omega
        intro j x cs hx hcs
        by_cases hj : j < xs.length
        · rw [List.getElem?_append_left hj] at hx
          rw [List.getElem?_append_left (by omega)] at hcs
          refine E.mono (S := fun k => S k ∧ k < w.heap.size) (E.keep (E.mono (hor j x cs hx hcs) (S' := fun k => S k ∧ k < w.heap.size) fun k hk _ => hk.1) ?_) fun k hk _ => ⟨hk, hne2 k hk.2⟩
          intro k ⟨_, hk⟩ hkl
          exact (hgrow.block k hkl (fun e => by have := (hown.lt k e.symm).1; omega))
        · rw [List.getElem?_append_right (by omega)] at hx
          rw [List.getElem?_append_right (by omega), hol] at hcs
          exact E.mono (S := fun k => S k ∧ k < w.heap.size) (E.keep (E.mono (hnr _ x cs hx hcs) (S' := fun k => S k ∧ k < w.heap.size) fun k hs hk => ⟨hs, hk⟩) hF2.keeps.all) fun k hk _ => ⟨hk, hne2 k hk.2⟩
      exact ⟨v2, w2, hrun, hF2, Half.fin (.inr hM)⟩
end
end Go.Proofs.Ytbhmpbaembmlnaa
