/- The normal form, in plain words: it is its own one, no longer, and no neighbours fit. -/
import Derived.Test.YtbhmpbaembmlnaaB7
set_option linter.unusedVariables false
namespace Go.Proofs.Ytbhmpbaembmlnaa

theorem ofS_spec : ∀ (n : Nat) (xs : List Stp), xs.length ≤ n → onceS (ofS xs) = none ∧ (ofS xs).length ≤ xs.length ∧ (∀ ys, onceS xs = some ys → (ofS xs).length < xs.length)
  | n, xs, hn => by
    cases h : onceS xs with
    | none => rw [ofS_none h]; exact ⟨h, Nat.le_refl _, fun ys e => by cases e⟩
    | some ys =>
      have hl := once_len h
      match n, hn with
      | 0, hn => omega
      | n + 1, hn =>
        have ih := ofS_spec n ys (by omega)
        rw [ofS_some h]
        exact ⟨ih.1, by have := ih.2.1; omega, fun zs _ => by have := ih.2.1; omega⟩

theorem ofS_once (xs : List Stp) : onceS (ofS xs) = none := (ofS_spec _ xs (Nat.le_refl _)).1
theorem ofS_len (xs : List Stp) : (ofS xs).length ≤ xs.length := (ofS_spec _ xs (Nat.le_refl _)).2.1
theorem ofS_again (xs : List Stp) : ofS (ofS xs) = ofS xs := ofS_none (ofS_once xs)
theorem ofS_is (xs : List Stp) : (onceS xs).isNone = true ↔ ofS xs = xs := by
  constructor
  · intro h
    exact ofS_none (Option.isNone_iff_eq_none.1 h)
  · intro h
    cases ho : onceS xs with
    | none => rfl
    | some ys =>
      have := (ofS_spec _ xs (Nat.le_refl _)).2.2 ys ho
      rw [h] at this; omega
theorem once_pairs : ∀ {xs : List Stp}, onceS xs = none → ∀ (j : Nat) (x y : Stp), xs[j]? = some x → xs[j + 1]? = some y → pairS x y = none
  | [], _, j, x, y, h, _ => by simp at h
  | [a], _, j, x, y, _, h => by simp at h
  | a :: b :: rest, ho, j, x, y, hx, hy => by
    unfold onceS at ho
    cases hp : pairS a b with
    | some r => simp [hp] at ho
    | none =>
      simp only [hp, Option.map_eq_none_iff] at ho
      match j with
      | 0 => simp at hx hy; subst hx; subst hy; exact hp
      | j + 1 => exact once_pairs ho j x y (by simpa using hx) (by simpa using hy)
end Go.Proofs.Ytbhmpbaembmlnaa
