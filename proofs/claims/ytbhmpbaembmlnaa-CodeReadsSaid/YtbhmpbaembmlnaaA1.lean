/- Words of these proofs: trees, steps, spots, numbers as things in memory; trees of one's own. -/
import Derived.Test.YtbhmpbaembmlnaaA0
set_option linter.unusedVariables false
namespace Go.Proofs.Ytbhmpbaembmlnaa
open Go.RowKit

/-! ### 1. Trees -/

/-- A node of a tree. -/
structure Nd where
  id : Int
  kind : Int
  text : ByteArray
  kids : List Nd

mutual
def Nd.ht : Nd → Nat
  | ⟨_, _, _, l⟩ => htL l + 1
def htL : List Nd → Nat
  | [] => 0
  | x :: l => max x.ht (htL l)
end

theorem htL_mem {x : Nd} : ∀ {l : List Nd}, x ∈ l → x.ht ≤ htL l
  | y :: l, h => by
    rw [htL]
    rcases List.mem_cons.1 h with rfl | h
    · omega
    · have := htL_mem h; omega

theorem Nd.ht_kid {t x : Nd} (h : x ∈ t.kids) : x.ht < t.ht := by
  cases t with
  | mk i k s l => have := htL_mem h; rw [Nd.ht]; exact Nat.lt_succ_of_le this

theorem Nd.ht_get {t x : Nd} {j : Nat} (h : t.kids[j]? = some x) : x.ht < t.ht := Nd.ht_kid (List.mem_of_getElem? h)
theorem Nd.ht_pos (t : Nd) : 0 < t.ht := by cases t; rw [Nd.ht]; omega

/-- Induction on a tree, by its height. -/
theorem Nd.byHeight {p : Nd → Prop} (h : ∀ t : Nd, (∀ (j : Nat) (x : Nd), t.kids[j]? = some x → p x) → p t) : ∀ t, p t := by
  have key : ∀ n (t : Nd), t.ht ≤ n → p t := by
    intro n
    induction n with
    | zero => intro t ht; have := t.ht_pos; omega
    | succ n ih => intro t ht; exact h t fun j x hx => ih x (by have := Nd.ht_get hx; omega)
  exact fun t => key t.ht t (Nat.le_refl _)

/-- What the rows of kids hold is bounded. -/
abbrev kidsMax : Nat := 2513169434843

/-- These four cells are this tree, in w, all that it leads to in blocks of S. -/
inductive RN (w : World) (S : Nat → Prop) : Nd → List Value → Prop where
  | mk (id kind : Int) (text : ByteArray) (kids : List Nd) (A : Option Addr) (cap : Nat) (g off : Nat) (css : List (List Value))
      (hi : (Lit.int .i64 id).wf = true) (hk : (Lit.int .i64 kind).wf = true) (ht : text.size ≤ maxLen)
      (hcap : kids.length ≤ cap) (hlen : kids.length ≤ kidsMax) (hA : kids ≠ [] → A = some ⟨g, off, none⟩ ∧ S g) (hcl : css.length = kids.length)
      (hc : ∀ (j : Nat) (cs : List Value), css[j]? = some cs → CellsAt w g (off + j * 4) cs)
      (hr : ∀ (j : Nat) (x : Nd) (cs : List Value), kids[j]? = some x → css[j]? = some cs → RN w S x cs) : RN w S ⟨id, kind, text, kids⟩ [.int .i64 id, .int .i64 kind, .string text, .slice A kids.length cap]

theorem RN.length {w : World} {S : Nat → Prop} {t : Nd} {cs : List Value} (h : RN w S t cs) : cs.length = 4 := by cases h; rfl
theorem RN.one {w : World} {S : Nat → Prop} {t : Nd} {cs : List Value} (h : RN w S t cs) : ∀ u ∈ cs, u.oneCell' = true := by
  cases h
  intro u hu
  simp at hu
  rcases hu with rfl | rfl | rfl | rfl <;> rfl
theorem RN.keep {w w' : World} {S : Nat → Prop} {t : Nd} {cs : List Value} (h : RN w S t cs) (hb : Keeps S w w') : RN w' S t cs := by
  induction h with
  | mk id kind text kids A cap g off css hi hk ht hcap hlen hA hcl hc hr ih =>
    refine .mk id kind text kids A cap g off css hi hk ht hcap hlen hA hcl (fun j cs hj => (hc j cs hj).keep hb (hA ?_).2) ih
    intro h; subst h; simp at hcl; subst hcl; simp at hj
theorem RN.mono {w : World} {S S' : Nat → Prop} {t : Nd} {cs : List Value} (h : RN w S t cs) (hs : ∀ k, S k → k < w.heap.size → S' k) : RN w S' t cs := by
  induction h with
  | mk id kind text kids A cap g off css hi hk ht hcap hlen hA hcl hc hr ih =>
    refine .mk id kind text kids A cap g off css hi hk ht hcap hlen (fun h => ⟨(hA h).1, hs _ (hA h).2 ?_⟩) hcl hc ih
    have h0 : 0 < kids.length := List.length_pos_iff.2 h
    obtain ⟨x, hx⟩ := get_some h0
    obtain ⟨cs, hcs⟩ := get_some (l := css) (k := 0) (by omega)
    have := hr 0 x cs hx hcs
    cases this
    exact cell_lt (hc 0 _ hcs 0 _ rfl)

def elNd : El Nd := ⟨4, RN, by decide, RN.length, RN.one, RN.keep, RN.mono⟩

/-- A tree's cells, laid open. -/
theorem RN.open {w : World} {S : Nat → Prop} {t : Nd} {cs : List Value} (h : RN w S t cs) :
    ∃ A cap, cs = [.int .i64 t.id, .int .i64 t.kind, .string t.text, .slice A t.kids.length cap] ∧ t.kids.length ≤ cap ∧ t.kids.length ≤ kidsMax ∧ Row elNd w S A t.kids ∧
      (Lit.int .i64 t.id).wf = true ∧ (Lit.int .i64 t.kind).wf = true ∧ t.text.size ≤ maxLen := by
  cases h with
  | mk id kind text kids A cap g off css hi hk ht hcap hlen hA hcl hc hr =>
    refine ⟨A, cap, rfl, hcap, hlen, fun hn => ?_, hi, hk, ht⟩
    have h0 : 0 < kids.length := List.length_pos_iff.2 hn
    obtain ⟨x, hx⟩ := get_some h0
    obtain ⟨cs, hcs⟩ := get_some (l := css) (k := 0) (by omega)
    have h1 := hr 0 x cs hx hcs
    have hlt : g < w.heap.size := by cases h1; exact cell_lt (hc 0 _ hcs 0 _ rfl)
    refine ⟨g, off, (hA hn).1, (hA hn).2, hlt, fun j x hx => ?_⟩
    obtain ⟨cs, hcs⟩ := get_some (l := css) (k := j) (by have := get_lt hx; simp at this; omega)
    exact ⟨cs, hc j cs hcs, hr j x cs hx hcs⟩

theorem RN.close {w : World} {S : Nat → Prop} {t : Nd} {A : Option Addr} {cap : Nat} (hcap : t.kids.length ≤ cap) (hlen : t.kids.length ≤ kidsMax) (hr : Row elNd w S A t.kids)
    (hi : (Lit.int .i64 t.id).wf = true) (hk : (Lit.int .i64 t.kind).wf = true) (ht : t.text.size ≤ maxLen) : RN w S t [.int .i64 t.id, .int .i64 t.kind, .string t.text, .slice A t.kids.length cap] := by
  obtain ⟨id, kind, text, kids⟩ := t
  simp only at *
  by_cases hn : kids = []
  · subst hn
    exact .mk id kind text [] A cap 0 0 [] hi hk ht hcap hlen (fun h => absurd rfl h) rfl (fun j cs h => by simp at h) (fun j x cs h => by simp at h)
  · obtain ⟨g, off, rfl, hg, _, hx⟩ := hr hn
    have hch : ∃ css : List (List Value), css.length = kids.length ∧ ∀ j x cs, kids[j]? = some x → css[j]? = some cs → CellsAt w g (off + j * 4) cs ∧ RN w S x cs := by
      clear hn hcap hlen
      have : ∀ n, n ≤ kids.length → ∃ css : List (List Value), css.length = n ∧ ∀ (j : Nat) (x : Nd) (cs : List Value), kids[j]? = some x → css[j]? = some cs → CellsAt w g (off + j * 4) cs ∧ RN w S x cs := by
        intro n
        induction n with
        | zero => exact fun _ => ⟨[], rfl, fun j x cs _ h => by simp at h⟩
        | succ n ih =>
          intro hn
          obtain ⟨css, hl, hcs⟩ := ih (by omega)
          obtain ⟨x, hxn⟩ := get_some (l := kids) (k := n) (by omega)
          obtain ⟨c, hc1, hc2⟩ := hx n x hxn
          refine ⟨css ++ [c], by simp [hl], fun j y cs hy hcs' => ?_⟩
          by_cases hj : j < n
          · rw [List.getElem?_append_left (by omega)] at hcs'
            exact hcs j y cs hy hcs'
          · have : j = n := by
              have := get_lt hcs'
              simp at this; omega
            subst this
            rw [← hl] at hcs'
            simp at hcs'
            subst hcs'
            rw [hxn] at hy
            injection hy with hy
            subst hy
            exact ⟨hc1, hc2⟩
      exact this _ (Nat.le_refl _)
    obtain ⟨css, hl, hcs⟩ := hch
    refine .mk id kind text kids _ cap g off css hi hk ht hcap hlen (fun _ => ⟨rfl, hg⟩) hl (fun j cs h => ?_) (fun j x cs hx h => (hcs j x cs hx h).2)
    obtain ⟨x, hx⟩ := get_some (l := kids) (k := j) (by have := get_lt h; omega)
    exact (hcs j x cs hx h).1

/-- In w, wherever. -/
abbrev RT (w : World) (t : Nd) (cs : List Value) : Prop := RN w (fun _ => True) t cs
theorem RN.here {w : World} {S : Nat → Prop} {t : Nd} {cs : List Value} (h : RN w S t cs) : RT w t cs := h.mono fun _ _ _ => trivial
theorem RN.later {w w' : World} {t : Nd} {cs : List Value} (h : RT w t cs) (hb : Fr w w') : RT w' t cs := h.keep hb.keeps

theorem RN.old {w w' : World} {t : Nd} {cs : List Value} (h : RT w t cs) (hb : Fr w w') : RN w' (· < w.heap.size) t cs := (RN.mono h fun _ _ hk => hk).keep hb.keeps.all

/-- What a round that reads kid j wants to know. -/
theorem Row.kid {w : World} {S : Nat → Prop} {A : Option Addr} {xs : List Nd} (h : Row elNd w S A xs) {j : Nat} {x : Nd} (hj : xs[j]? = some x) :
    ∃ g off A' cap', A = some ⟨g, off, none⟩ ∧ S g ∧ g < w.heap.size ∧
      w.cell? ⟨g, off + j * 4, none⟩ = some (.int .i64 x.id) ∧ w.cell? ⟨g, off + j * 4 + 1, none⟩ = some (.int .i64 x.kind) ∧ w.cell? ⟨g, off + j * 4 + 2, none⟩ = some (.string x.text) ∧ w.cell? ⟨g, off + j * 4 + 3, none⟩ = some (.slice A' x.kids.length cap') ∧
      RN w S x [.int .i64 x.id, .int .i64 x.kind, .string x.text, .slice A' x.kids.length cap'] := by
  obtain ⟨g, off, cs, hA, hg, hl, hc, hr⟩ := h.get hj
  have hr' : RN w S x cs := hr
  obtain ⟨A', cap', rfl, _⟩ := hr'.open
  exact ⟨g, off, A', cap', hA, hg, hl, hc 0 _ rfl, hc 1 _ rfl, hc 2 _ rfl, hc 3 _ rfl, hr'⟩

/-! ### 2. Trees of one's own: each row of kids is a block of its own, and no two are one -/

inductive OwnT (w : World) : (Nat → Prop) → Nd → List Value → Prop where
  | mk (S : Nat → Prop) (id kind : Int) (text : ByteArray) (kids : List Nd) (v : Value) (css : List (List Value)) (Fs : Nat → Nat → Prop)
      (hi : (Lit.int .i64 id).wf = true) (hk : (Lit.int .i64 kind).wf = true) (ht : text.size ≤ maxLen) (hlen : kids.length ≤ kidsMax)
      (hrow : w.ownsRow 0 25 4 v kids.length css.flatten) (hcl : css.length = kids.length)
      (hr : ∀ (j : Nat) (x : Nd) (cs : List Value), kids[j]? = some x → css[j]? = some cs → OwnT w (Fs j) x cs)
      (hd : ∀ i j k, Fs i k → Fs j k → i = j) (hv : ∀ j k, Fs j k → v.ownBlock ≠ some k) (hS : ∀ j k, Fs j k → S k) (hSv : ∀ k, v.ownBlock = some k → S k) :
      OwnT w S ⟨id, kind, text, kids⟩ [.int .i64 id, .int .i64 kind, .string text, v]

theorem OwnT.length {w : World} {S : Nat → Prop} {t : Nd} {cs : List Value} (h : OwnT w S t cs) : cs.length = 4 := by cases h; rfl

theorem OwnT.keep {w w' : World} {S : Nat → Prop} {t : Nd} {cs : List Value} (h : OwnT w S t cs) (hb : Keeps S w w') : OwnT w' S t cs := by
  induction h with
  | mk S id kind text kids v css Fs hi hk ht hlen hrow hcl hr hd hv hS hSv ih =>
    exact .mk S id kind text kids v css Fs hi hk ht hlen (ownsRow_keep hrow fun k h1 h2 => hb k (hSv k h1) h2) hcl (fun j x cs hx hcs => ih j x cs hx hcs (hb.weaken fun k h _ => hS j k h)) hd hv hS hSv

theorem OwnT.mono {w : World} {S S' : Nat → Prop} {t : Nd} {cs : List Value} (h : OwnT w S t cs) (hs : ∀ k, S k → S' k) : OwnT w S' t cs := by
  cases h with
  | mk _ id kind text kids v css Fs hi hk ht hlen hrow hcl hr hd hv hS hSv =>
    exact .mk S' id kind text kids v css Fs hi hk ht hlen hrow hcl hr hd hv (fun j k h => hs k (hS j k h)) (fun k h => hs k (hSv k h))

/-- What is one's own can be read. -/
theorem OwnT.reads {w : World} {S : Nat → Prop} {t : Nd} {cs : List Value} (h : OwnT w S t cs) : RN w S t cs := by
  induction h with
  | mk S id kind text kids v css Fs hi hk ht hlen hrow hcl hr hd hv hS hSv ih =>
    have h4 : ∀ cs ∈ css, cs.length = 4 := by
      intro cs hcs
      obtain ⟨j, hj, rfl⟩ := List.mem_iff_getElem.1 hcs
      obtain ⟨x, hx⟩ := get_some (l := kids) (k := j) (by omega)
      exact (hr j x _ hx (List.getElem?_eq_getElem hj)).length
    obtain ⟨A, cap, rfl, hcap, hA⟩ := ownsRow_slice hrow
    by_cases hn : kids.length = 0
    · obtain rfl : kids = [] := List.eq_nil_of_length_eq_zero hn
      obtain rfl : css = [] := List.eq_nil_of_length_eq_zero hcl
      exact .mk id kind text [] A cap 0 0 [] hi hk ht hcap hlen (fun h => absurd rfl h) rfl (fun j cs h => by simp at h) (fun j x cs h => by simp at h)
    · obtain ⟨g, rfl, hg⟩ := hA hn
      refine .mk id kind text kids _ cap g 0 css hi hk ht hcap hlen (fun _ => ⟨rfl, hSv g hg⟩) hcl ?_ (fun j x cs hx hcs => (ih j x cs hx hcs).mono fun k hk _ => hS j k hk)
      intro j cs hj i u hu
      have hi4 : i < 4 := by
        have := h4 cs (List.mem_of_getElem? hj)
        have := get_lt hu
        omega
      have := hrow.cells hg (j * 4 + i) u (by rw [flatten_get hi4 h4, hj]; exact hu)
      rwa [add_plain, show 0 + (j * 4 + i) = 0 + j * 4 + i by omega] at this

theorem OwnT.one {w : World} {S : Nat → Prop} {t : Nd} {cs : List Value} (h : OwnT w S t cs) : ∀ u ∈ cs, u.oneCell' = true := h.reads.one

theorem info25 : (Try.prog.info? 25).map (fun i => (i.zero, i.size, i.bytes)) = some (some (.agg #[(.int .i64 0), (.int .i64 0), (.string ⟨#[]⟩), (.slice none 0 0)]), 4, 56) := by kernel_rfl

/-- Kids that were made so far, of a call that began with 'base' blocks. -/
def Kids (w : World) (base : Nat) (v : Value) (xs : List Nd) : Prop :=
  ∃ (css : List (List Value)) (Fs : Nat → Nat → Prop), w.ownsRow base 25 4 v xs.length css.flatten ∧ css.length = xs.length ∧
    (∀ (j : Nat) (x : Nd) (cs : List Value), xs[j]? = some x → css[j]? = some cs → OwnT w (Fs j) x cs) ∧
    (∀ i j k, Fs i k → Fs j k → i = j) ∧ (∀ j k, Fs j k → v.ownBlock ≠ some k) ∧ (∀ j k, Fs j k → base ≤ k ∧ k < w.heap.size)

theorem Kids.nil (w : World) (base : Nat) : Kids w base (.slice none 0 0) [] :=
  ⟨[], fun _ _ => False, World.ownsRow_nil _ _ _ _, rfl, fun j x cs h => by simp at h, fun _ _ _ h => h.elim, fun _ _ h => h.elim, fun _ _ h => h.elim⟩
theorem Kids.lt {w : World} {base : Nat} {v : Value} {xs : List Nd} (h : Kids w base v xs) : ∀ k, v.ownBlock = some k → base ≤ k ∧ k < w.heap.size := by
  obtain ⟨css, Fs, hrow, _⟩ := h
  exact hrow.lt
/-- What does not touch the blocks of the call's own leaves them. -/
theorem Kids.keep {w w' : World} {base : Nat} {v : Value} {xs : List Nd} (h : Kids w base v xs) (hb : Keeps (fun k => base ≤ k) w w') (hz : w.heap.size ≤ w'.heap.size) : Kids w' base v xs := by
  obtain ⟨css, Fs, hrow, hcl, hr, hd, hv, hS⟩ := h
  refine ⟨css, Fs, ?_, hcl, fun j x cs hx hcs => (hr j x cs hx hcs).keep (hb.weaken fun k hk _ => (hS j k hk).1), hd, hv, fun j k hk => ⟨(hS j k hk).1, Nat.lt_of_lt_of_le (hS j k hk).2 hz⟩⟩
  exact ownsRow_keep hrow fun k h1 h2 => hb k (hrow.lt k h1).1 h2
theorem Kids.later {w w' : World} {base : Nat} {v : Value} {xs : List Nd} (h : Kids w base v xs) (hb : Fr w w') : Kids w' base v xs := h.keep (hb.keeps.weaken fun _ _ _ => trivial) hb.size
theorem Kids.slice {w : World} {base : Nat} {v : Value} {xs : List Nd} (h : Kids w base v xs) : ∃ A cap, v = .slice A xs.length cap ∧ xs.length ≤ cap := by
  obtain ⟨css, Fs, hrow, _⟩ := h
  obtain ⟨A, cap, h1, h2, _⟩ := ownsRow_slice hrow
  exact ⟨A, cap, h1, h2⟩
theorem Kids.sliceN {w : World} {base n : Nat} {v : Value} {xs : List Nd} (h : Kids w base v xs) (hn : xs.length = n) : ∃ A cap, v = .slice A n cap ∧ n ≤ cap := by
  subst hn
  exact h.slice
/-- The kids, laid under a node. -/
theorem Kids.node {w : World} {base : Nat} {v : Value} {t : Nd} (h : Kids w base v t.kids) (hi : (Lit.int .i64 t.id).wf = true) (hk : (Lit.int .i64 t.kind).wf = true) (ht : t.text.size ≤ maxLen) (hl : t.kids.length ≤ kidsMax) :
    OwnT w (fun k => base ≤ k ∧ k < w.heap.size) t [.int .i64 t.id, .int .i64 t.kind, .string t.text, v] := by
  have hlt := h.lt
  obtain ⟨css, Fs, hrow, hcl, hr, hd, hv, hS⟩ := h
  cases t with
  | mk id kind text kids => exact .mk _ id kind text kids v css Fs hi hk ht hl (rebase0 hrow) hcl hr hd hv hS hlt

theorem wpList_append_kid {ops : Array Oper} {rest : List Oper} {o : Oper} {a : Act} {Q : Exit → Act → World → Prop} {wr W : World} (hgd : o.guard = none) (s x : Operand)
    (ho : o.op = .call { callee := .builtin .append, args := #[s, x], argTypes := #[23, 23] }) (base lo : Nat) (v : Value) (xs : List Nd) (y : Nd) (cs : List Value)
    (hs : a.eval s = v) {N : Nat} (hx : a.eval x = .slice (some ⟨N, 0, none⟩) 1 1) (hN : N = W.heap.size) (HK : Kids wr base v xs) (hb : Fr wr W) (hbase : base ≤ wr.heap.size) (hlo : wr.heap.size ≤ lo) (hy : OwnT W (fun k => lo ≤ k ∧ k < W.heap.size) y cs)
    (hl : xs.length < kidsMax) (h : ∀ v1 w1, Kids w1 base v1 (xs ++ [y]) → W.grownBy w1 v.ownBlock → (v1.ownBlock = v.ownBlock ∨ v1.ownBlock = some (W.heap.size + 1)) → wpList Try.prog ops Q rest (a.put o.dst v1) w1) :
    wpList Try.prog ops Q (o :: rest) a (W.alloc (.cells cs.toArray 25)) := by
  have hlt := HK.lt
  obtain ⟨css, Fs, hrow, hcl, hr, hd, hv, hS⟩ := HK
  have hrow' : W.ownsRow base 25 4 v xs.length css.flatten := ownsRow_keep hrow fun k _ h2 => hb.block k h2
  have hbs := hb.size
  refine wpList_append_one base 23 25 _ 4 56 hgd s x ho Try.underlying23 info25 rfl (by decide) v xs.length css.flatten cs hs hx hN hy.length hy.one hrow' (by omega) (by unfold kidsMax at hl; unfold maxLen; omega) (by unfold kidsMax at hl; omega) ?_
  intro v1 w1 hown hg hat
  refine h v1 w1 ⟨css ++ [cs], fun j k => if j < xs.length then Fs j k else j = xs.length ∧ lo ≤ k ∧ k < W.heap.size, by simpa using hown, by simp [hcl], ?_, ?_, ?_, ?_⟩ hg hat
  · intro j x cs' hx hcs
    by_cases hj : j < xs.length
    · rw [List.getElem?_append_left hj] at hx
      rw [List.getElem?_append_left (by omega)] at hcs
      refine OwnT.mono (S := fun k => Fs j k) ?_ (fun k hk => by simpa [hj] using hk)
      refine (hr j x cs' hx hcs).keep ?_
      intro k hk hks
      have h1 := hS j k hk
      rw [hg.block k (by omega) (fun e => hv j k hk e.symm), hb.block k h1.2]
    · have hj2 : j = xs.length := by
        have := get_lt hx
        simp at this; omega
      subst hj2
      simp at hx
      rw [← hcl] at hcs
      simp at hcs
      subst hx; subst hcs
      refine OwnT.mono (S := fun k => lo ≤ k ∧ k < W.heap.size) ?_ (fun k hk => by simpa using hk)
      refine hy.keep ?_
      intro k hk hks
      exact hg.block k hks (fun e => by have := hlt k e.symm; omega)
  · intro i j k hi hj
    split at hi <;> split at hj
    · exact hd i j k hi hj
    · have := hS i k hi; omega
    · have := hS j k hj; omega
    · omega
  · intro j k hk e
    rcases hat with hat | hat <;> rw [hat] at e
    · split at hk
      · exact hv j k hk e
      · have := hlt k e; omega
    · simp at e
      split at hk
      · have := hS j k hk; omega
      · omega
  · intro j k hk
    have := hg.size
    split at hk
    · have := hS j k hk; omega
    · omega

/-! ### 3. Steps, spots, numbers -/

structure Stp where
  op : Int
  id : Int
  parent : Int
  place : Int
  text : ByteArray
  sub : Nd

def RStp (w : World) (S : Nat → Prop) (s : Stp) (cs : List Value) : Prop :=
  ∃ sub, cs = [.int .i8 s.op, .int .i64 s.id, .int .i64 s.parent, .int .i64 s.place, .string s.text] ++ sub ∧ RN w S s.sub sub ∧
    (Lit.int .i8 s.op).wf = true ∧ (Lit.int .i64 s.id).wf = true ∧ (Lit.int .i64 s.parent).wf = true ∧ (Lit.int .i64 s.place).wf = true ∧ s.text.size ≤ maxLen

abbrev RP (w : World) (s : Stp) (cs : List Value) : Prop := RStp w (fun _ => True) s cs
theorem RStp.keep {w w' : World} {S : Nat → Prop} {s : Stp} {cs : List Value} (h : RStp w S s cs) (hk : Keeps S w w') : RStp w' S s cs := by
  obtain ⟨sub, rfl, h, r⟩ := h; exact ⟨sub, rfl, h.keep hk, r⟩
theorem RStp.mono {w : World} {S S' : Nat → Prop} {s : Stp} {cs : List Value} (h : RStp w S s cs) (hs : ∀ k, S k → k < w.heap.size → S' k) : RStp w S' s cs := by
  obtain ⟨sub, rfl, h, r⟩ := h; exact ⟨sub, rfl, h.mono hs, r⟩
theorem RStp.here {w : World} {S : Nat → Prop} {s : Stp} {cs : List Value} (h : RStp w S s cs) : RP w s cs := h.mono fun _ _ _ => trivial
theorem RStp.later {w w' : World} {s : Stp} {cs : List Value} (h : RP w s cs) (hb : Fr w w') : RP w' s cs := h.keep hb.keeps

def elStp : El Stp where
  size := 9
  R := RStp
  pos := by decide
  len := by rintro w S x cs ⟨sub, rfl, h, _⟩; simp [h.length]
  one := by
    rintro w S x cs ⟨sub, rfl, h, _⟩ u hu
    rcases List.mem_append.1 hu with hu | hu
    · simp at hu
      rcases hu with rfl | rfl | rfl | rfl | rfl <;> rfl
    · exact h.one u hu
  keep := RStp.keep
  mono := RStp.mono

theorem RStp.open {w : World} {S : Nat → Prop} {s : Stp} {cs : List Value} (h : RStp w S s cs) :
    ∃ A cap, cs = [.int .i8 s.op, .int .i64 s.id, .int .i64 s.parent, .int .i64 s.place, .string s.text, .int .i64 s.sub.id, .int .i64 s.sub.kind, .string s.sub.text, .slice A s.sub.kids.length cap] ∧
      RN w S s.sub [.int .i64 s.sub.id, .int .i64 s.sub.kind, .string s.sub.text, .slice A s.sub.kids.length cap] := by
  obtain ⟨sub, rfl, hr, -⟩ := h
  have hr' := hr
  obtain ⟨A, cap, rfl, -⟩ := hr'.open
  exact ⟨A, cap, rfl, hr⟩

theorem RStp.wfs {w : World} {S : Nat → Prop} {s : Stp} {cs : List Value} (h : RStp w S s cs) :
    (Lit.int .i8 s.op).wf = true ∧ (Lit.int .i64 s.id).wf = true ∧ (Lit.int .i64 s.parent).wf = true ∧ (Lit.int .i64 s.place).wf = true ∧ s.text.size ≤ maxLen := by
  obtain ⟨sub, -, -, h⟩ := h; exact h

/-- What a round that reads step j wants to know. -/
theorem Row.stp {w : World} {S : Nat → Prop} {A : Option Addr} {xs : List Stp} (h : Row elStp w S A xs) {j : Nat} {x : Stp} (hj : xs[j]? = some x) :
    ∃ g off B cap, A = some ⟨g, off, none⟩ ∧ S g ∧ g < w.heap.size ∧
      (w.cell? ⟨g, off + j * 9, none⟩ = some (.int .i8 x.op) ∧ w.cell? ⟨g, off + j * 9 + 1, none⟩ = some (.int .i64 x.id) ∧ w.cell? ⟨g, off + j * 9 + 2, none⟩ = some (.int .i64 x.parent) ∧ w.cell? ⟨g, off + j * 9 + 3, none⟩ = some (.int .i64 x.place) ∧ w.cell? ⟨g, off + j * 9 + 4, none⟩ = some (.string x.text) ∧
       w.cell? ⟨g, off + j * 9 + 5, none⟩ = some (.int .i64 x.sub.id) ∧ w.cell? ⟨g, off + j * 9 + 6, none⟩ = some (.int .i64 x.sub.kind) ∧ w.cell? ⟨g, off + j * 9 + 7, none⟩ = some (.string x.sub.text) ∧ w.cell? ⟨g, off + j * 9 + 8, none⟩ = some (.slice B x.sub.kids.length cap)) ∧
      RN w S x.sub [.int .i64 x.sub.id, .int .i64 x.sub.kind, .string x.sub.text, .slice B x.sub.kids.length cap] ∧
      RStp w S x [.int .i8 x.op, .int .i64 x.id, .int .i64 x.parent, .int .i64 x.place, .string x.text, .int .i64 x.sub.id, .int .i64 x.sub.kind, .string x.sub.text, .slice B x.sub.kids.length cap] := by
  obtain ⟨g, off, cs, hA, hg, hl, hc, hr⟩ := h.get hj
  have hr' : RStp w S x cs := hr
  obtain ⟨B, cap, rfl, hs⟩ := hr'.open
  exact ⟨g, off, B, cap, hA, hg, hl, ⟨hc 0 _ rfl, hc 1 _ rfl, hc 2 _ rfl, hc 3 _ rfl, hc 4 _ rfl, hc 5 _ rfl, hc 6 _ rfl, hc 7 _ rfl, hc 8 _ rfl⟩, hs, hr'⟩

/-- A node of a walk, and how deep it is. -/
structure Spt where
  x : Nd
  depth : Int

def RSpt (w : World) (S : Nat → Prop) (s : Spt) (cs : List Value) : Prop := ∃ sub, cs = sub ++ [.int .i64 s.depth] ∧ RN w S s.x sub

def elSpt : El Spt where
  size := 5
  R := RSpt
  pos := by decide
  len := by rintro w S x cs ⟨sub, rfl, h⟩; simp [h.length]
  one := by
    rintro w S x cs ⟨sub, rfl, h⟩ u hu
    rcases List.mem_append.1 hu with hu | hu
    · exact h.one u hu
    · simp at hu
      subst hu; rfl
  keep := by rintro w w' S x cs ⟨sub, rfl, h⟩ hk; exact ⟨sub, rfl, h.keep hk⟩
  mono := by rintro w S S' x cs ⟨sub, rfl, h⟩ hk; exact ⟨sub, rfl, h.mono hk⟩

/-- Whole numbers of a kind. -/
def elInt (k : IntKind) : El Int where
  size := 1
  R := fun _ _ x cs => cs = [.int k x] ∧ (Lit.int k x).wf = true
  pos := by decide
  len := by rintro w S x cs ⟨rfl, _⟩; rfl
  one := by
    rintro w S x cs ⟨rfl, _⟩ u hu
    simp at hu
    subst hu; rfl
  keep := fun h _ => h
  mono := fun h _ => h

end Go.Proofs.Ytbhmpbaembmlnaa
