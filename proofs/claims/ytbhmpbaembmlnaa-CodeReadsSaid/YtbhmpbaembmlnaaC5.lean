/- Arguments read: rows of numbers. -/
import Derived.Test.YtbhmpbaembmlnaaC3
set_option linter.unusedVariables false
namespace Go.Proofs.Ytbhmpbaembmlnaa
open Go.RowKit

set_option maxRecDepth 100000 in
set_option maxHeartbeats 1000000 in
theorem nums_of_trod {H : Type} {enc : TypeId × Value → H} {w : World} {sp : Nat → Bool} {held : Bool} {n : Nat} {k : IntKind} {t e : TypeId} (ht : Try.prog.underlying t = some (.slice e)) (he : Try.prog.underlying e = some (.int k)) (hc : Try.prog.cellsOf e = 1) {sz : Nat} (hby : Try.prog.bytesOf e = sz) (hsz : 1 ≤ sz)
    {cs : List Value} {x : DataW H × List MemPlace} (h : DataW.trod enc Try.prog w 0 sp held n t cs = some x) (hw : ∀ k ∈ x.1.weights Try.prog t, k ≤ reachBytes) : ∃ (l : List Int) (v : Value), cs = [v] ∧ SlT (elInt k) w v l ∧ l.length ≤ reachBytes := by
  rcases DataW.trod_slice ht h with ⟨rfl, -⟩ | ⟨a, len, cap, elems, rest, m', rfl, rfl, rfl, -, hlc, -, hel, hat, -⟩
  · exact ⟨[], _, rfl, ⟨_, _, rfl, Nat.le_refl _, Row.nil _ _ _ _⟩, by simp⟩
  · have hlen : (elems.length + rest.length) * sz ≤ reachBytes := by
      refine hw _ ?_
      simp only [DataW.weights, ht, hby, List.length_map]
      simp
    rw [hc] at hat
    have hkid : ∀ (i : Nat) (d : DataW H × List MemPlace), elems[i]? = some d → ∃ z : Int, w.cells? 0 (a.add (i * 1)) 1 = some [.int k z] ∧ (Lit.int k z).wf = true := by
      intro i d hd
      have := hat i (by rw [← hel]; exact get_lt hd)
      rw [hd] at this
      obtain ⟨cs, hcs, htr⟩ := Option.bind_eq_some_iff.1 this
      obtain ⟨z, hz, -, hw⟩ := DataW.trod_int he htr
      rw [hz] at hcs
      exact ⟨z, hcs, hw⟩
    obtain ⟨zs, hzl, hzp⟩ := list_choose elems hkid
    have hzlen : zs.length = len := by rw [hzl, hel]
    refine ⟨zs, _, rfl, ⟨some a, cap, by rw [hzlen], by rw [hzlen]; exact hlc, ?_⟩, ?_⟩
    rotate_left
    · rw [hzlen, ← hel]
      have : elems.length * 1 ≤ (elems.length + rest.length) * sz := Nat.mul_le_mul (Nat.le_add_right _ _) hsz
      omega
    intro hne
    obtain ⟨z0, hz0⟩ := get_some (l := zs) (k := 0) (List.length_pos_iff.2 hne)
    obtain ⟨d0, hd0⟩ := get_some (l := elems) (k := 0) (by have := get_lt hz0; omega)
    have hc0 := (hzp 0 d0 z0 hd0 hz0).1
    rw [Nat.zero_mul] at hc0
    obtain ⟨g, off, hga, hgl, -, -⟩ := cells_at hc0 (by decide)
    have hga : a = ⟨g, off, none⟩ := by rw [← hga]; simp [Addr.add]
    subst hga
    refine ⟨g, off, rfl, trivial, hgl, fun j z hj => ?_⟩
    obtain ⟨d, hd⟩ := get_some (l := elems) (k := j) (by have := get_lt hj; omega)
    obtain ⟨hcz, hw⟩ := hzp j d z hd hj
    rw [add_plain] at hcz
    obtain ⟨g', off', hga', -, hca, -⟩ := cells_at hcz (by decide)
    injection hga' with q1 q2 q3
    subst q1; subst q2
    exact ⟨[.int k z], hca, rfl, hw⟩

end Go.Proofs.Ytbhmpbaembmlnaa
