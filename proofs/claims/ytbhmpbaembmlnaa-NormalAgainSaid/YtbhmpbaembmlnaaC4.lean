/- Arguments read: steps. -/
import Derived.Test.YtbhmpbaembmlnaaC3
set_option linter.unusedVariables false
namespace Go.Proofs.Ytbhmpbaembmlnaa
open Go.RowKit

set_option maxRecDepth 100000 in
set_option maxHeartbeats 1000000 in
theorem step_of_trod {H : Type} {enc : TypeId × Value → H} {w : World} {sp : Nat → Bool} {held : Bool} {n : Nat} {cs : List Value} {x : DataW H × List MemPlace} (h : DataW.trod enc Try.prog w 0 sp held n 27 cs = some x) (hw : ∀ k ∈ x.1.weights Try.prog 27, k ≤ reachBytes) : ∃ s : Stp, RP w s cs := by
  obtain ⟨xs, m, rfl, rfl, hlen, hxl, hf⟩ := DataW.trod_struct Try.underlying27 h
  rw [c27] at hlen
  obtain ⟨v0, v1, v2, v3, v4, v5, v6, v7, v8, rfl⟩ : ∃ v0 v1 v2 v3 v4 v5 v6 v7 v8, cs = [v0, v1, v2, v3, v4, v5, v6, v7, v8] := by
    match cs, hlen with
    | [v0, v1, v2, v3, v4, v5, v6, v7, v8], _ => exact ⟨_, _, _, _, _, _, _, _, _, rfl⟩
  obtain ⟨x0, x1, x2, x3, x4, x5, rfl⟩ : ∃ x0 x1 x2 x3 x4 x5, xs = [x0, x1, x2, x3, x4, x5] := by
    match xs, hxl with
    | [v0, v1, v2, v3, v4, v5], _ => exact ⟨_, _, _, _, _, _, rfl⟩
  have h0 := hf 0 _ rfl
  have h1 := hf 1 _ rfl
  have h2 := hf 2 _ rfl
  have h3 := hf 3 _ rfl
  have h4 := hf 4 _ rfl
  have h5 := hf 5 _ rfl
  simp only [List.getElem?_cons_zero, List.getElem?_cons_succ] at h0 h1 h2 h3 h4 h5
  obtain ⟨op, e0, -, w0⟩ := DataW.trod_int Try.underlying22 h0
  obtain ⟨id, e1, -, w1⟩ := DataW.trod_int Try.underlying3 h1
  obtain ⟨parent, e2, -, w2⟩ := DataW.trod_int Try.underlying3 h2
  obtain ⟨place, e3, -, w3⟩ := DataW.trod_int Try.underlying3 h3
  obtain ⟨text, e4, -, w4⟩ := DataW.trod_string Try.underlying9 h4
  injection e0 with e0; injection e1 with e1; injection e2 with e2; injection e3 with e3; injection e4 with e4
  subst e0; subst e1; subst e2; subst e3; subst e4
  obtain ⟨t, ht⟩ := node_of_trod m _ x5 h5 (fun k hk => hw k (by
    simp only [List.map_cons, List.map_nil, DataW.weights, Try.underlying27, DataW.weightsEach]
    simp [hk]))
  exact ⟨⟨op, id, parent, place, text, t⟩, _, rfl, ht, w0, w1, w2, w3, w4⟩

set_option maxRecDepth 100000 in
set_option maxHeartbeats 1000000 in
theorem steps_of_trod {H : Type} {enc : TypeId × Value → H} {w : World} {sp : Nat → Bool} {held : Bool} {n : Nat} {cs : List Value} {x : DataW H × List MemPlace} (h : DataW.trod enc Try.prog w 0 sp held n 29 cs = some x) (hw : ∀ k ∈ x.1.weights Try.prog 29, k ≤ reachBytes) : ∃ (l : List Stp) (v : Value), cs = [v] ∧ SlT elStp w v l ∧ l.length * 104 ≤ reachBytes := by
  rcases DataW.trod_slice Try.underlying29 h with ⟨rfl, -⟩ | ⟨a, len, cap, elems, rest, m', rfl, rfl, rfl, -, hlc, -, hel, hat, -⟩
  · exact ⟨[], _, rfl, ⟨_, _, rfl, Nat.le_refl _, Row.nil _ _ _ _⟩, by simp⟩
  · have hsz : (elems.length + rest.length) * 104 ≤ reachBytes := by
      refine hw _ ?_
      simp only [DataW.weights, Try.underlying29, by27, List.length_map]
      simp
    have hwe : ∀ (i : Nat) (e : DataW H × List MemPlace), elems[i]? = some e → ∀ k ∈ e.1.weights Try.prog 27, k ≤ reachBytes := by
      intro i e he k hk
      refine hw _ ?_
      simp only [DataW.weights, Try.underlying29, by27]
      have := all_weights (P := Try.prog) (e := 27) (l := elems.map (·.1)) (i := i) (d := e.1) (by simp [he]) k hk
      simp [this]
    rw [c27] at hat
    have hkid : ∀ (i : Nat) (e : DataW H × List MemPlace), elems[i]? = some e → ∃ p : Stp × List Value, w.cells? 0 (a.add (i * 9)) 9 = some p.2 ∧ RP w p.1 p.2 := by
      intro i e he
      have := hat i (by rw [← hel]; exact get_lt he)
      rw [he] at this
      obtain ⟨cs, hc, htr⟩ := Option.bind_eq_some_iff.1 this
      obtain ⟨t, hr⟩ := step_of_trod htr (hwe i e he)
      exact ⟨(t, cs), hc, hr⟩
    obtain ⟨kids, hkl, hkp⟩ := list_choose elems hkid
    have hkidsl : (kids.map (·.1)).length = len := by simp [hkl, hel]
    refine ⟨kids.map (·.1), _, rfl, ⟨some a, cap, by rw [hkidsl], by rw [hkidsl]; exact hlc, ?_⟩, by rw [hkidsl]; omega⟩
    intro hne
    have hpos : 0 < kids.length := by
      rcases kids with _ | _
      · simp at hne
      · simp
    obtain ⟨p0, hp0⟩ := get_some (l := kids) (k := 0) hpos
    obtain ⟨e0, he0⟩ := get_some (l := elems) (k := 0) (by omega)
    have hc0 := (hkp 0 e0 p0 he0 hp0).1
    rw [Nat.zero_mul] at hc0
    obtain ⟨g, off, hga, hgl, -, -⟩ := cells_at hc0 (by decide)
    have hga : a = ⟨g, off, none⟩ := by rw [← hga]; simp [Addr.add]
    subst hga
    refine ⟨g, off, rfl, trivial, hgl, fun j x hj => ?_⟩
    simp only [List.getElem?_map, Option.map_eq_some_iff] at hj
    obtain ⟨p, hp, rfl⟩ := hj
    obtain ⟨e, he⟩ := get_some (l := elems) (k := j) (by have := get_lt hp; omega)
    obtain ⟨hc, hr⟩ := hkp j e p he hp
    rw [add_plain] at hc
    obtain ⟨g', off', hga', -, hca, -⟩ := cells_at hc (by decide)
    injection hga' with q1 q2 q3
    subst q1; subst q2
    exact ⟨p.2, hca, hr⟩
end Go.Proofs.Ytbhmpbaembmlnaa
