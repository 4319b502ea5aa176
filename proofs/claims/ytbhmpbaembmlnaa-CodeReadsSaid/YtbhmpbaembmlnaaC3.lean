/- Arguments read: a tree of nodes, out of what the row's reader says. -/
import Derived.Test.YtbhmpbaembmlnaaA1
import Derived.ProofKit
import Derived.SizedLaws
set_option linter.unusedVariables false
namespace Go.Proofs.Ytbhmpbaembmlnaa
open Go.RowKit

theorem c3 : Try.prog.cellsOf 3 = 1 := by kernel_rfl
theorem c9 : Try.prog.cellsOf 9 = 1 := by kernel_rfl
theorem c22 : Try.prog.cellsOf 22 = 1 := by kernel_rfl
theorem c23 : Try.prog.cellsOf 23 = 1 := by kernel_rfl
theorem c25 : Try.prog.cellsOf 25 = 4 := by kernel_rfl
theorem c27 : Try.prog.cellsOf 27 = 9 := by kernel_rfl
theorem by25 : Try.prog.bytesOf 25 = 56 := by kernel_rfl
theorem by27 : Try.prog.bytesOf 27 = 104 := by kernel_rfl

theorem all_weights {H : Type} {P : Program} {e : TypeId} : ∀ {l : List (DataW H)} {i : Nat} {d : DataW H}, l[i]? = some d → ∀ n ∈ d.weights P e, n ∈ DataW.weightsAll P e l
  | x :: r, 0, d, h, n, hn => by
    simp at h; subst h
    simp [DataW.weightsAll, hn]
  | x :: r, i + 1, d, h, n, hn => by
    simp [DataW.weightsAll]
    exact .inr (all_weights (by simpa using h) n hn)

/-- Cells that are read at one address. -/
theorem cells_at {w : World} {a : Addr} {n : Nat} {cs : List Value} (h : w.cells? 0 a n = some cs) (hn : 0 < n) : ∃ g off, a = ⟨g, off, none⟩ ∧ g < w.heap.size ∧ CellsAt w g off cs ∧ cs.length = n := by
  obtain ⟨_, hl, hc⟩ := World.cells?_some h
  have h0 := hc 0 hn
  obtain ⟨u, hu⟩ := get_some (l := cs) (k := 0) (by omega)
  rw [hu] at h0
  have hs := World.cell?_spot h0
  obtain ⟨g, off, spot⟩ := a
  simp [Addr.add] at hs
  subst hs
  refine ⟨g, off, rfl, by simpa [Addr.add] using cell_lt h0, fun i u hu => ?_, hl⟩
  have := hc i (by rw [← hl]; exact get_lt hu)
  rw [add_plain] at this
  exact this.trans hu

set_option maxRecDepth 100000 in
set_option maxHeartbeats 1000000 in
theorem node_of_trod {H : Type} {enc : TypeId × Value → H} {w : World} {sp : Nat → Bool} {held : Bool} (n : Nat) : ∀ (cs : List Value) (x : DataW H × List MemPlace), DataW.trod enc Try.prog w 0 sp held n 25 cs = some x → (∀ k ∈ x.1.weights Try.prog 25, k ≤ reachBytes) → ∃ t : Nd, RT w t cs := by
  induction n using Nat.strongRecOn with
  | ind n ih =>
  intro cs x h hw
  obtain ⟨xs, m, rfl, rfl, hlen, hxl, hf⟩ := DataW.trod_struct Try.underlying25 h
  rw [c25] at hlen
  obtain ⟨v0, v1, v2, v3, rfl⟩ : ∃ v0 v1 v2 v3, cs = [v0, v1, v2, v3] := by
    match cs, hlen with
    | [v0, v1, v2, v3], _ => exact ⟨_, _, _, _, rfl⟩
  obtain ⟨x0, x1, x2, x3, rfl⟩ : ∃ x0 x1 x2 x3, xs = [x0, x1, x2, x3] := by
    match xs, hxl with
    | [v0, v1, v2, v3], _ => exact ⟨_, _, _, _, rfl⟩
  have h0 := hf 0 _ rfl
  have h1 := hf 1 _ rfl
  have h2 := hf 2 _ rfl
  have h3 := hf 3 _ rfl
  simp only [List.getElem?_cons_zero, List.getElem?_cons_succ] at h0 h1 h2 h3
  obtain ⟨id, e0, -, hi⟩ := DataW.trod_int Try.underlying3 h0
  obtain ⟨kind, e1, -, hk⟩ := DataW.trod_int Try.underlying3 h1
  obtain ⟨text, e2, -, ht⟩ := DataW.trod_string Try.underlying9 h2
  injection e0 with e0; injection e1 with e1; injection e2 with e2
  subst e0; subst e1; subst e2
  rcases DataW.trod_slice Try.underlying23 h3 with ⟨e3, -⟩ | ⟨a, len, cap, elems, rest, m', hm', e3, rfl, -, hlc, -, hel, hat, -⟩
  · injection e3 with e3
    subst e3
    exact ⟨⟨id, kind, text, []⟩, RN.close (t := ⟨id, kind, text, []⟩) (Nat.le_refl _) (by simp) (Row.nil _ _ _ _) hi hk ht⟩
  · injection e3 with e3
    subst e3
    have hsz : (elems.length + rest.length) * 56 ≤ reachBytes := by
      refine hw _ ?_
      simp only [List.map_cons, List.map_nil, DataW.weights, Try.underlying25, Try.underlying23, DataW.weightsEach, by25, List.length_map]
      simp
    have hwe : ∀ (i : Nat) (e : DataW H × List MemPlace), elems[i]? = some e → ∀ k ∈ e.1.weights Try.prog 25, k ≤ reachBytes := by
      intro i e he k hk
      refine hw _ ?_
      simp only [List.map_cons, List.map_nil, DataW.weights, Try.underlying25, Try.underlying23, DataW.weightsEach, by25]
      have := all_weights (P := Try.prog) (e := 25) (l := elems.map (·.1)) (i := i) (d := e.1) (by simp [he]) k hk
      simp [this]
    rw [c25] at hat
    have hkid : ∀ (i : Nat) (e : DataW H × List MemPlace), elems[i]? = some e → ∃ p : Nd × List Value, w.cells? 0 (a.add (i * 4)) 4 = some p.2 ∧ RT w p.1 p.2 := by
      intro i e he
      have := hat i (by rw [← hel]; exact get_lt he)
      rw [he] at this
      obtain ⟨cs, hc, htr⟩ := Option.bind_eq_some_iff.1 this
      obtain ⟨t, hr⟩ := ih m' (by omega) cs e htr (hwe i e he)
      exact ⟨(t, cs), hc, hr⟩
    obtain ⟨kids, hkl, hkp⟩ := list_choose elems hkid
    have hkidsl : (kids.map (·.1)).length = len := by simp [hkl, hel]
    refine ⟨⟨id, kind, text, kids.map (·.1)⟩, ?_⟩
    have := RN.close (w := w) (S := fun _ => True) (t := ⟨id, kind, text, kids.map (·.1)⟩) (A := some a) (cap := cap) (by rw [hkidsl]; exact hlc) (by rw [hkidsl]; unfold reachBytes at hsz; unfold kidsMax; omega) ?_ hi hk ht
    · rw [hkidsl] at this
      exact this
    · intro hne
      have hpos : 0 < kids.length := by
        rcases kids with _ | _
        · simp at hne
        · simp
      obtain ⟨p0, hp0⟩ := get_some (l := kids) (k := 0) hpos
      obtain ⟨e0, he0⟩ := get_some (l := elems) (k := 0) (by omega)
      have hc0 := (hkp 0 e0 p0 he0 hp0).1
      rw [Nat.zero_mul] at hc0
      obtain ⟨g, off, hga, hgl, -, -⟩ := cells_at hc0 (by decide)
      have hga : a = ⟨g, off, none⟩ := by rw [← hga]; simp [Addr.add]
      subst hga
      refine ⟨g, off, rfl, trivial, hgl, fun j x hj => ?_⟩
      simp only [List.getElem?_map, Option.map_eq_some_iff] at hj
      obtain ⟨p, hp, rfl⟩ := hj
      obtain ⟨e, he⟩ := get_some (l := elems) (k := j) (by have := get_lt hp; omega)
      obtain ⟨hc, hr⟩ := hkp j e p he hp
      rw [add_plain] at hc
      obtain ⟨g', off', hga', -, hca, -⟩ := cells_at hc (by decide)
      injection hga' with q1 q2 q3
      subst q1; subst q2
      exact ⟨p.2, hca, hr⟩
end Go.Proofs.Ytbhmpbaembmlnaa
