/- Steps put into a row of steps; the row of the normal forms. -/
import Derived.Test.YtbhmpbaembmlnaaB6
set_option linter.unusedVariables false
namespace Go.Proofs.Ytbhmpbaembmlnaa
open Go.RowKit


def lset {α : Type} (xs : List α) (p : Nat) : List α → List α
  | [] => xs
  | u :: us => lset (xs.set p u) (p + 1) us
theorem lset_get {α : Type} : ∀ (us xs : List α) (p j : Nat), p + us.length ≤ xs.length → (lset xs p us)[j]? = if p ≤ j ∧ j < p + us.length then us[j - p]? else xs[j]?
  | [], xs, p, j, _ => by simp [lset]; omega
  | u :: us, xs, p, j, h => by
    simp at h
    rw [lset, lset_get us _ _ _ (by simp; omega)]
    by_cases hj : j = p
    · subst hj
      rw [if_neg (by omega), if_pos (by simp), List.getElem?_set_self (by omega)]
      simp
    · by_cases h2 : p + 1 ≤ j ∧ j < p + 1 + us.length
      · rw [if_pos h2, if_pos (by simp; omega)]
        obtain ⟨d, rfl⟩ : ∃ d, j = p + 1 + d := ⟨j - (p + 1), by omega⟩
        rw [show p + 1 + d - (p + 1) = d by omega, show p + 1 + d - p = d + 1 by omega]
        simp
      · rw [if_neg h2, if_neg (by simp; omega), List.getElem?_set_ne (by omega)]

theorem lset_flatten {α : Type} {m k : Nat} (hm0 : 0 < m) {css : List (List α)} {us : List α} (hm : ∀ cs ∈ css, cs.length = m) (hu : us.length = m) (hk : k < css.length) (hl : css.flatten.length = css.length * m) :
    lset css.flatten (k * m) us = (css.set k us).flatten := by
  have hm' : ∀ cs ∈ css.set k us, cs.length = m := by
    intro cs hcs
    rcases List.mem_or_eq_of_mem_set hcs with h | rfl
    · exact hm cs h
    · exact hu
  have hle : k * m + m ≤ css.length * m := by
    have : (k + 1) * m ≤ css.length * m := Nat.mul_le_mul_right _ hk
    rwa [Nat.succ_mul] at this
  apply List.ext_getElem?
  intro j
  rw [lset_get _ _ _ _ (by omega)]
  have hj : j / m * m + j % m = j := by rw [Nat.mul_comm]; exact Nat.div_add_mod j m
  have h1 := flatten_get (css := css) (j := j / m) (i := j % m) (Nat.mod_lt _ hm0) hm
  have h2 := flatten_get (css := css.set k us) (j := j / m) (i := j % m) (Nat.mod_lt _ hm0) hm'
  rw [hj] at h1 h2
  rw [h2]
  have hmod := Nat.mod_lt j hm0
  by_cases hc : j / m = k
  · have hj2 : k * m + j % m = j := by rw [← hc]; exact hj
    rw [hc, List.getElem?_set_self hk, if_pos (by omega), show j - k * m = j % m by omega]
    rfl
  · rw [List.getElem?_set_ne (by omega), ← h1, if_neg]
    intro ⟨ha, hb⟩
    apply hc
    rw [hu, show k * m + m = (k + 1) * m by rw [Nat.succ_mul]] at hb
    have h3 : k ≤ j / m := (Nat.le_div_iff_mul_le hm0).2 ha
    have h4 : j / m < k + 1 := (Nat.div_lt_iff_lt_mul hm0).2 hb
    omega

theorem setCells_owns {base : Nat} {e : TypeId} {size g n cap : Nat} : ∀ (us : List Value) (w : World) (p : Nat) (xs : List Value), w.ownsRow base e size (.slice (some ⟨g, 0, none⟩) n cap) n xs →
    (w.setCells g p us).ownsRow base e size (.slice (some ⟨g, 0, none⟩) n cap) n (lset xs p us)
  | [], _, _, _, h => h
  | u :: us, w, p, xs, h => setCells_owns us _ (p + 1) _ (h.stored p u).1
theorem Keeps.setCells {S : Nat → Prop} {g : Nat} (hg : ¬ S g) : ∀ (us : List Value) {a b : World} (p : Nat), Keeps S a b → Keeps S a (b.setCells g p us)
  | [], _, _, _, h => h
  | u :: us, _, _, p, h => Keeps.setCells hg us (p + 1) (h.set hg p u)

/-- A thing is put into a row that was made. -/
theorem Made.setCells {α : Type} {E : El α} {w : World} {base : Nat} {e : TypeId} {T : Nat → Prop} {g n cap : Nat} {xs : List α} (h : Made E w base e T (.slice (some ⟨g, 0, none⟩) n cap) xs) {k : Nat} (hk : k < xs.length) {y : α} {us : List Value}
    (hy : E.R w (fun q => T q ∧ q ≠ g) y us) : Made E (w.setCells g (k * E.size) us) base e T (.slice (some ⟨g, 0, none⟩) n cap) (xs.set k y) := by
  obtain ⟨css, hrow, hcl, hr⟩ := h
  have hn : n = xs.length := by
    rcases hrow.2 with ⟨h, _⟩ | ⟨_, _, _, h, _⟩
    · cases h
    · injection h
  subst hn
  have hm : ∀ cs ∈ css, cs.length = E.size := by
    intro cs hcs
    obtain ⟨j, hj, rfl⟩ := List.mem_iff_getElem.1 hcs
    obtain ⟨x, hx⟩ := get_some (l := xs) (k := j) (by omega)
    exact E.len (hr j x _ hx (List.getElem?_eq_getElem hj))
  have hs := setCells_owns us w (k * E.size) css.flatten hrow
  rw [lset_flatten E.pos hm (E.len hy) (by omega) (by rw [hcl]; exact hrow.1)] at hs
  have hK : Keeps (fun q => T q ∧ q ≠ g) w (w.setCells g (k * E.size) us) := Keeps.setCells (fun h => h.2 rfl) us _ (Keeps.refl _ _)
  refine ⟨css.set k us, by simpa using hs, by simp [hcl], ?_⟩
  intro j x cs hx hcs
  by_cases hjk : j = k
  · subst hjk
    rw [List.getElem?_set_self (by omega)] at hx hcs
    injection hx with hx; injection hcs with hcs
    subst hx; subst hcs
    exact E.mono (E.keep hy hK) fun q hq _ => ⟨hq.1, by simpa [Value.ownBlock] using fun e => hq.2 e.symm⟩
  · rw [List.getElem?_set_ne (by omega)] at hx hcs
    refine E.keep (hr j x cs hx hcs) (hK.weaken fun q hq _ => ⟨hq.1, ?_⟩)
    rintro rfl
    exact hq.2 rfl

theorem once_len : ∀ {xs ys : List Stp}, onceS xs = some ys → ys.length < xs.length
  | [], _, h => by simp [onceS] at h
  | [_], _, h => by simp [onceS] at h
  | a :: b :: rest, ys, h => by
    unfold onceS at h
    cases hp : pairS a b with
    | some r =>
      have := pairS_len hp
      simp only [hp] at h
      injection h with h
      subst h
      simp; omega
    | none =>
      simp only [hp] at h
      obtain ⟨zs, hz, rfl⟩ := Option.map_eq_some_iff.1 h
      have := once_len hz
      simp at this ⊢; omega

/-- The normal form. -/
def ofN : Nat → List Stp → List Stp
  | 0, xs => xs
  | n + 1, xs => match onceS xs with
    | none => xs
    | some ys => ofN n ys
def ofS (xs : List Stp) : List Stp := ofN xs.length xs
theorem ofN_more : ∀ (n m : Nat) (xs : List Stp), xs.length ≤ n → xs.length ≤ m → ofN n xs = ofN m xs
  | 0, m, xs, hn, hm => by
    have : xs = [] := List.eq_nil_of_length_eq_zero (by omega)
    subst this
    cases m <;> simp [ofN, onceS]
  | n + 1, 0, xs, hn, hm => by
    have : xs = [] := List.eq_nil_of_length_eq_zero (by omega)
    subst this
    simp [ofN, onceS]
  | n + 1, m + 1, xs, hn, hm => by
    unfold ofN
    cases h : onceS xs with
    | none => rfl
    | some ys =>
      have := once_len h
      exact ofN_more n m ys (by omega) (by omega)
theorem ofS_none {xs : List Stp} (h : onceS xs = none) : ofS xs = xs := by
  unfold ofS
  cases hx : xs.length with
  | zero => rfl
  | succ n => simp [ofN, h]
theorem ofS_some {xs ys : List Stp} (h : onceS xs = some ys) : ofS xs = ofS ys := by
  have hl := once_len h
  unfold ofS
  cases hx : xs.length with
  | zero => omega
  | succ n =>
    rw [ofN, h]
    exact ofN_more _ _ _ (by omega) (Nat.le_refl _)
end Go.Proofs.Ytbhmpbaembmlnaa
