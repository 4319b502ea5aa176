/- Words of these proofs: frames, blocks, rows of things in memory that are read or made, trees, steps. -/
import Derived.Test.YtbhmpbaembmlnaaProg
import Derived.WalkKit
import Derived.WalkLawsBesides
import Derived.WalkSpells
import Derived.Maps.AppendAt
import Derived.Deep.LoopGhost
import Derived.Deep.QuietTactic
import Derived.BigQuiet
import Derived.StillTailTactics
import Derived.Deep.RegionHeld3
import Derived.Deep.AppendLies
import Derived.Lib.Hide
import Derived.Lib.ConvBytes
set_option linter.unusedVariables false
namespace Go.Proofs.Ytbhmpbaembmlnaa
open Go.RowKit

/-! ### 1. Lists of lists -/

theorem flatten_length {α : Type} {m : Nat} : ∀ {css : List (List α)}, (∀ cs ∈ css, cs.length = m) → css.flatten.length = css.length * m
  | [], _ => by simp
  | c :: css, h => by
    rw [List.flatten_cons, List.length_append, h c (by simp), flatten_length fun cs hcs => h cs (by simp [hcs]), List.length_cons, Nat.succ_mul, Nat.add_comm]

theorem flatten_get {α : Type} {m i : Nat} (hi : i < m) : ∀ {css : List (List α)} {j : Nat}, (∀ cs ∈ css, cs.length = m) → css.flatten[j * m + i]? = (css[j]?).bind (·[i]?)
  | [], _, _ => by simp
  | c :: css, 0, h => by
    have := h c (by simp)
    simp only [List.flatten_cons, Nat.zero_mul, Nat.zero_add, List.getElem?_cons_zero, Option.bind_some]
    rw [List.getElem?_append_left (by omega)]
  | c :: css, j + 1, h => by
    have h0 := h c (by simp)
    rw [List.flatten_cons, List.getElem?_append_right (by rw [h0, Nat.succ_mul]; omega), h0, List.getElem?_cons_succ,
      show (j + 1) * m + i - m = j * m + i by rw [Nat.succ_mul]; omega, flatten_get hi fun cs hcs => h cs (by simp [hcs])]

theorem get_some {α : Type} {l : List α} {k : Nat} (h : k < l.length) : ∃ x, l[k]? = some x := ⟨_, List.getElem?_eq_getElem h⟩
theorem get_lt {α : Type} {l : List α} {k : Nat} {x : α} (h : l[k]? = some x) : k < l.length := (List.getElem?_eq_some_iff.1 h).1

theorem list_choose {α β : Type} {p : Nat → α → β → Prop} : ∀ (xs : List α), (∀ j x, xs[j]? = some x → ∃ y, p j x y) → ∃ ys : List β, ys.length = xs.length ∧ ∀ j x y, xs[j]? = some x → ys[j]? = some y → p j x y := by
  intro xs
  induction xs generalizing p with
  | nil => intro _; exact ⟨[], rfl, fun j x y h => by simp at h⟩
  | cons a xs ih =>
    intro h
    obtain ⟨b, hb⟩ := h 0 a (by simp)
    obtain ⟨ys, hl, hp⟩ := ih (p := fun j => p (j + 1)) (fun j x hx => h (j + 1) x (by simpa using hx))
    refine ⟨b :: ys, by simp [hl], ?_⟩
    intro j x y hx hy
    match j with
    | 0 => simp at hx hy; subst hx; subst hy; exact hb
    | j + 1 => exact hp j x y (by simpa using hx) (by simpa using hy)

/-! ### 2. Frames -/

theorem heap_lt {w : World} {g : Nat} {o : Obj} (h : w.heap[g]? = some o) : g < w.heap.size := (Array.getElem?_eq_some_iff.1 h).1
theorem cell_lt {w : World} {a : Addr} {v : Value} (h : w.cell? a = some v) : a.block < w.heap.size := World.block_lt_of_cell? w a h
theorem add_plain (g off j : Nat) : (⟨g, off, none⟩ : Addr).add j = ⟨g, off + j, none⟩ := by unfold Addr.add; split <;> simp_all

/-- The blocks of S are in w' as they were in w. -/
def Keeps (S : Nat → Prop) (w w' : World) : Prop := ∀ k, S k → k < w.heap.size → w'.heap[k]? = w.heap[k]?

theorem Keeps.cell {S : Nat → Prop} {w w' : World} (h : Keeps S w w') {g off : Nat} {v : Value} (hg : S g) (hc : w.cell? ⟨g, off, none⟩ = some v) : w'.cell? ⟨g, off, none⟩ = some v :=
  (World.cell?_of_block (w := w) (w' := w') (a := ⟨g, off, none⟩) (h g hg (cell_lt hc))).trans hc
theorem Keeps.of_below {B : Nat} {w w' : World} (h : Below B w w') : Keeps (· < B) w w' := fun k hk _ => h.block k hk
theorem Keeps.of_grown {w w' : World} {row : Option Nat} (h : w.grownBy w' row) : Keeps (fun k => row ≠ some k) w w' := fun k hk hl => h.block k hl (fun e => hk e.symm)
theorem Keeps.weaken {S S' : Nat → Prop} {w w' : World} (h : Keeps S w w') (hs : ∀ k, S' k → k < w.heap.size → S k) : Keeps S' w w' := fun k hk hl => h k (hs k hk hl) hl

theorem Keeps.refl (S : Nat → Prop) (w : World) : Keeps S w w := fun _ _ _ => rfl
theorem Keeps.set {S : Nat → Prop} {a b : World} (h : Keeps S a b) {g : Nat} (hg : ¬ S g) (off : Nat) (u : Value) : Keeps S a (b.setCell ⟨g, off, none⟩ u) :=
  fun k hk hl => (Below.heap_setCell _ _ _ _ (by rintro rfl; exact hg hk)).trans (h k hk hl)
theorem size_set (w : World) (a : Addr) (u : Value) : (w.setCell a u).heap.size = w.heap.size := by simp [World.setCell]

/-- Nothing that was there has turned: the frame of a call that only makes things. -/
abbrev Fr (w w' : World) : Prop := Below w.heap.size w w'
theorem Fr.refl (w : World) : Fr w w := Below.refl _ w
theorem Fr.trans {a b c : World} (h : Fr a b) (k : Fr b c) : Fr a c := Below.trans h (k.mono h.size)
theorem Fr.alloc {a b : World} (h : Fr a b) (o : Obj) : Fr a (b.alloc o) := Below.alloc h h.size o
theorem Fr.new (w : World) (o : Obj) : Fr w (w.alloc o) := (Fr.refl w).alloc o
theorem Fr.drewN {a b : World} (h : Fr a b) (n : Nat) : Fr a (b.drewN n) := ⟨h.os, h.tape, h.output, h.size, h.block⟩
theorem Fr.grown {a b : World} (h : Fr a b) : a.grownBy b none := ⟨h.os, h.tape, h.output, h.size, fun k hk _ => h.block k hk⟩
theorem Fr.keeps {a b : World} (h : Fr a b) : Keeps (fun _ => True) a b := fun k _ hk => h.block k hk
theorem Keeps.all {S : Nat → Prop} {a b : World} (h : Keeps (fun _ => True) a b) : Keeps S a b := h.weaken fun _ _ _ => trivial
/-- Two rules for the walk: old cells and marks read as they did. -/
theorem Fr.rules {w w' : World} (h : Fr w w') : (∀ b o, b < w.heap.size → w'.cell? ⟨b, o, none⟩ = w.cell? ⟨b, o, none⟩) ∧ (∀ b o, b < w.heap.size → w'.frozen? ⟨b, o, none⟩ = w.frozen? ⟨b, o, none⟩) :=
  ⟨fun b o hb => Below.cell h (p := ⟨b, o, none⟩) hb, fun b o hb => Below.frozen h (p := ⟨b, o, none⟩) hb⟩
/-- Behind a law on append: the row is the call's own. -/
theorem Fr.own {a b c : World} {row : Option Nat} (h : Fr a b) (hg : b.grownBy c row) (hr : ∀ k, row = some k → a.heap.size ≤ k) : Fr a c := Below.grown h hg h.size hr
theorem Fr.set {a b : World} (h : Fr a b) {g : Nat} (hg : a.heap.size ≤ g) (off : Nat) (u : Value) : Fr a (b.setCell ⟨g, off, none⟩ u) := Below.setCell h (p := ⟨g, off, none⟩) hg u

/-! ### 3. Blocks that are known whole -/

/-- Block g of w holds these cells. -/
def Blk (w : World) (g : Nat) (cs : List Value) (e : TypeId) : Prop := w.heap[g]? = some (.cells cs.toArray e (0, 0))

theorem Blk.lt {w : World} {g : Nat} {cs : List Value} {e : TypeId} (h : Blk w g cs e) : g < w.heap.size := heap_lt h
theorem Blk.cell {w : World} {g : Nat} {cs : List Value} {e : TypeId} (h : Blk w g cs e) (j : Nat) : w.cell? ⟨g, j, none⟩ = cs[j]? := by
  have := cell_of_row w g j cs.toArray e (0, 0) h
  simpa using this
theorem Blk.frozen {w : World} {g : Nat} {cs : List Value} {e : TypeId} (h : Blk w g cs e) (j : Nat) : w.frozen? ⟨g, j, none⟩ = false := by
  unfold Blk at h
  simp [World.frozen?, h]
/-- The two rules for the walk. -/
theorem Blk.rules {w : World} {g : Nat} {cs : List Value} {e : TypeId} (h : Blk w g cs e) : (∀ j, w.cell? ⟨g, j, none⟩ = cs[j]?) ∧ (∀ j, w.frozen? ⟨g, j, none⟩ = false) := ⟨h.cell, h.frozen⟩
theorem Blk.keep {S : Nat → Prop} {w w' : World} {g : Nat} {cs : List Value} {e : TypeId} (h : Blk w g cs e) (hk : Keeps S w w') (hg : S g) : Blk w' g cs e := (hk g hg h.lt).trans h
theorem Blk.later {w w' : World} {g : Nat} {cs : List Value} {e : TypeId} (h : Blk w g cs e) (hk : Fr w w') : Blk w' g cs e := h.keep hk.keeps trivial
theorem Blk.grown {w w' : World} {row : Option Nat} {g : Nat} {cs : List Value} {e : TypeId} (h : Blk w g cs e) (hk : w.grownBy w' row) (hg : row ≠ some g) : Blk w' g cs e := h.keep (Keeps.of_grown hk) hg
theorem Blk.alloc {w : World} {g : Nat} {cs : List Value} {e : TypeId} (h : Blk w g cs e) (o : Obj) : Blk (w.alloc o) g cs e := h.later (Fr.new w o)
theorem Blk.new (w : World) (cs : List Value) (e : TypeId) : Blk (w.alloc (.cells cs.toArray e)) w.heap.size cs e := heap_alloc_new w _
theorem Blk.set {w : World} {g : Nat} {cs : List Value} {e : TypeId} (h : Blk w g cs e) (j : Nat) (u : Value) : Blk (w.setCell ⟨g, j, none⟩ u) g (cs.set j u) e := by
  unfold Blk at *
  simp [World.setCell, Array.getElem?_modify, h]
theorem Blk.far {w : World} {g : Nat} {cs : List Value} {e : TypeId} (h : Blk w g cs e) {g' : Nat} (hg : g ≠ g') (j : Nat) (u : Value) : Blk (w.setCell ⟨g', j, none⟩ u) g cs e := by
  unfold Blk at *
  rw [Below.heap_setCell _ _ _ _ hg]
  exact h
theorem Blk.drewN {w : World} {g : Nat} {cs : List Value} {e : TypeId} (h : Blk w g cs e) (n : Nat) : Blk (w.drewN n) g cs e := h

/-! ### 4. Things of several cells, rows of them -/

/-- The cells 'cs' lie in w from (g, off) on. -/
def CellsAt (w : World) (g off : Nat) (cs : List Value) : Prop := ∀ (i : Nat) (u : Value), cs[i]? = some u → w.cell? ⟨g, off + i, none⟩ = some u

theorem CellsAt.keep {S : Nat → Prop} {w w' : World} {g off : Nat} {cs : List Value} (h : CellsAt w g off cs) (hk : Keeps S w w') (hg : S g) : CellsAt w' g off cs :=
  fun i u hu => hk.cell hg (h i u hu)

/-- A kind of things: how many cells one takes, and what they say. S: the blocks to which it leads. -/
structure El (α : Type) where
  size : Nat
  R : World → (Nat → Prop) → α → List Value → Prop
  pos : 0 < size
  len : ∀ {w : World} {S : Nat → Prop} {x : α} {cs : List Value}, R w S x cs → cs.length = size
  one : ∀ {w : World} {S : Nat → Prop} {x : α} {cs : List Value}, R w S x cs → ∀ u ∈ cs, u.oneCell' = true
  keep : ∀ {w w' : World} {S : Nat → Prop} {x : α} {cs : List Value}, R w S x cs → Keeps S w w' → R w' S x cs
  mono : ∀ {w : World} {S S' : Nat → Prop} {x : α} {cs : List Value}, R w S x cs → (∀ k, S k → k < w.heap.size → S' k) → R w S' x cs

/-- A row of things that is read. -/
def Row {α : Type} (E : El α) (w : World) (S : Nat → Prop) (A : Option Addr) (xs : List α) : Prop :=
  xs ≠ [] → ∃ g off, A = some ⟨g, off, none⟩ ∧ S g ∧ g < w.heap.size ∧ ∀ (j : Nat) (x : α), xs[j]? = some x → ∃ cs, CellsAt w g (off + j * E.size) cs ∧ E.R w S x cs

theorem Row.keep {α : Type} {E : El α} {w w' : World} {S : Nat → Prop} {A : Option Addr} {xs : List α} (h : Row E w S A xs) (hk : Keeps S w w') (hz : w.heap.size ≤ w'.heap.size) : Row E w' S A xs := fun hn => by
  obtain ⟨g, off, hA, hg, hl, hx⟩ := h hn
  exact ⟨g, off, hA, hg, Nat.lt_of_lt_of_le hl hz, fun j x hj => let ⟨cs, hc, hr⟩ := hx j x hj; ⟨cs, hc.keep hk hg, E.keep hr hk⟩⟩
theorem Row.mono {α : Type} {E : El α} {w : World} {S S' : Nat → Prop} {A : Option Addr} {xs : List α} (h : Row E w S A xs) (hs : ∀ k, S k → k < w.heap.size → S' k) : Row E w S' A xs := fun hn => by
  obtain ⟨g, off, hA, hg, hl, hx⟩ := h hn
  exact ⟨g, off, hA, hs g hg hl, hl, fun j x hj => let ⟨cs, hc, hr⟩ := hx j x hj; ⟨cs, hc, E.mono hr hs⟩⟩
theorem Row.get {α : Type} {E : El α} {w : World} {S : Nat → Prop} {A : Option Addr} {xs : List α} (h : Row E w S A xs) {j : Nat} {x : α} (hj : xs[j]? = some x) :
    ∃ g off cs, A = some ⟨g, off, none⟩ ∧ S g ∧ g < w.heap.size ∧ CellsAt w g (off + j * E.size) cs ∧ E.R w S x cs := by
  obtain ⟨g, off, hA, hg, hl, hx⟩ := h (by rintro rfl; simp at hj)
  obtain ⟨cs, hc, hr⟩ := hx j x hj
  exact ⟨g, off, cs, hA, hg, hl, hc, hr⟩
theorem Row.nil {α : Type} (E : El α) (w : World) (S : Nat → Prop) (A : Option Addr) : Row E w S A [] := fun h => absurd rfl h
theorem Row.take {α : Type} {E : El α} {w : World} {S : Nat → Prop} {A : Option Addr} {xs : List α} (h : Row E w S A xs) (n : Nat) : Row E w S A (xs.take n) := fun hn => by
  obtain ⟨g, off, hA, hg, hl, hx⟩ := h (by rintro rfl; simp at hn)
  refine ⟨g, off, hA, hg, hl, fun j x hj => hx j x ?_⟩
  rw [List.getElem?_take] at hj
  split at hj
  · exact hj
  · cases hj
theorem Row.drop {α : Type} {E : El α} {w : World} {S : Nat → Prop} {g off : Nat} {xs : List α} (h : Row E w S (some ⟨g, off, none⟩) xs) (n : Nat) : Row E w S (some ⟨g, off + n * E.size, none⟩) (xs.drop n) := fun hn => by
  obtain ⟨g', off', hA, hg, hl, hx⟩ := h (by rintro rfl; simp at hn)
  injection hA with hA
  injection hA with h1 h2
  subst h1; subst h2
  refine ⟨g, _, rfl, hg, hl, fun j x hj => ?_⟩
  rw [List.getElem?_drop] at hj
  obtain ⟨cs, hc, hr⟩ := hx _ x hj
  refine ⟨cs, ?_, hr⟩
  rw [Nat.add_assoc, ← Nat.add_mul]
  exact hc

/-- A slice that is read. -/
def Sl {α : Type} (E : El α) (w : World) (S : Nat → Prop) (v : Value) (xs : List α) : Prop := ∃ A cap, v = .slice A xs.length cap ∧ xs.length ≤ cap ∧ Row E w S A xs
theorem Sl.keep {α : Type} {E : El α} {w w' : World} {S : Nat → Prop} {v : Value} {xs : List α} (h : Sl E w S v xs) (hk : Keeps S w w') (hz : w.heap.size ≤ w'.heap.size) : Sl E w' S v xs :=
  let ⟨A, cap, hv, hc, hr⟩ := h; ⟨A, cap, hv, hc, hr.keep hk hz⟩
theorem Sl.mono {α : Type} {E : El α} {w : World} {S S' : Nat → Prop} {v : Value} {xs : List α} (h : Sl E w S v xs) (hs : ∀ k, S k → k < w.heap.size → S' k) : Sl E w S' v xs :=
  let ⟨A, cap, hv, hc, hr⟩ := h; ⟨A, cap, hv, hc, hr.mono hs⟩
/-- .. wherever it lies. -/
abbrev SlT {α : Type} (E : El α) (w : World) (v : Value) (xs : List α) : Prop := Sl E w (fun _ => True) v xs
theorem SlT.later {α : Type} {E : El α} {w w' : World} {v : Value} {xs : List α} (h : SlT E w v xs) (hk : Fr w w') : SlT E w' v xs := Sl.keep h hk.keeps hk.size

/-! ### 5. Rows of one's own -/

theorem ownsRow_slice {w : World} {base n size : Nat} {e : TypeId} {v : Value} {xs : List Value} (h : w.ownsRow base e size v n xs) :
    ∃ A cap, v = .slice A n cap ∧ n ≤ cap ∧ (n ≠ 0 → ∃ g, A = some ⟨g, 0, none⟩ ∧ v.ownBlock = some g) := by
  rcases h.2 with ⟨rfl, rfl⟩ | ⟨g, cap, cur, rfl, _, _, hc, _⟩
  · exact ⟨none, 0, rfl, Nat.le_refl _, fun h => absurd rfl h⟩
  · exact ⟨_, cap, rfl, hc, fun _ => ⟨g, rfl, rfl⟩⟩

theorem rebase0 {w : World} {base n size : Nat} {e : TypeId} {v : Value} {xs : List Value} (h : w.ownsRow base e size v n xs) : w.ownsRow 0 e size v n xs := by
  refine ⟨h.1, ?_⟩
  rcases h.2 with h | ⟨g, cap, cur, rfl, h0, hg, r⟩
  · exact .inl h
  · exact .inr ⟨g, cap, cur, rfl, Nat.zero_le _, hg, r⟩

theorem ownsRow_keep {w w' : World} {base n size : Nat} {e : TypeId} {v : Value} {xs : List Value} (h : w.ownsRow base e size v n xs) (hk : ∀ k, v.ownBlock = some k → k < w.heap.size → w'.heap[k]? = w.heap[k]?) : w'.ownsRow base e size v n xs := by
  refine ⟨h.1, ?_⟩
  rcases h.2 with h | ⟨g, cap, cur, rfl, h0, hg, r⟩
  · exact .inl h
  · exact .inr ⟨g, cap, cur, rfl, h0, (hk g rfl (heap_lt hg)).trans hg, r⟩

/-- One thing is put behind a row of one's own. -/
theorem wpList_append_one {P : Program} {ops : Array Oper} {rest : List Oper} {o : Oper} {a : Act} {Q : Exit → Act → World → Prop} {W : World} (base : Nat) (t e : TypeId) (z : Value) (size bytes : Nat)
    (hgd : o.guard = none) (s x : Operand) (ho : o.op = .call { callee := .builtin .append, args := #[s, x], argTypes := #[t, t] })
    (ht : P.underlying t = some (.slice e)) (hinfo : (P.info? e).map (fun i => (i.zero, i.size, i.bytes)) = some (some z, size, bytes)) (hz : z.cells.size = size) (hs0 : 0 < size)
    (v : Value) (n : Nat) (xs cs : List Value) (hs : a.eval s = v) {N : Nat} (hx : a.eval x = .slice (some ⟨N, 0, none⟩) 1 1) (hN : N = W.heap.size) (hcs : cs.length = size) (h1 : ∀ u ∈ cs, u.oneCell' = true)
    (HO : W.ownsRow base e size v n xs) (hbase : base ≤ W.heap.size) (hn : n + 1 ≤ maxLen) (hl : (n + 1) * bytes ≤ 140737488355328)
    (h : ∀ v1 w1, w1.ownsRow base e size v1 (n + 1) (xs ++ cs) → W.grownBy w1 v.ownBlock → (v1.ownBlock = v.ownBlock ∨ v1.ownBlock = some (W.heap.size + 1)) → wpList P ops Q rest (a.put o.dst v1) w1) :
    wpList P ops Q (o :: rest) a (W.alloc (.cells cs.toArray e)) := by
  subst hN
  obtain ⟨i0, hi, hzz⟩ := Option.map_eq_some_iff.1 hinfo
  simp only [Prod.mk.injEq] at hzz
  obtain ⟨hz0, hz1, hz2⟩ := hzz
  refine wpList_append_own_at (W.alloc (.cells cs.toArray e)) hgd s x t ho base e i0 z size bytes ht hi hz0 hz1 hz2 hz hs0 v n xs hs (HO.alloc _) ⟨W.heap.size, 0, none⟩ 1 1 cs hx (by rw [hcs, Nat.one_mul])
    (fun j u hu => World.news_of_block (cs := cs.toArray) (t := e) (fr := (0, 0)) (heap_alloc_new W _) j u (by simpa using hu)) h1 hn hl (by simp; omega) ?_
  intro v1 w1 hown hg _ hat
  refine h v1 w1 hown (World.grownBy.trans (World.grownBy_alloc W _ _) hg) ?_
  rcases hat with hat | hat
  · exact .inl hat
  · exact .inr (by rw [hat, World.size_alloc])

/-- A row of things that this call has made (in blocks from 'base' on); the things lead to blocks of T, and not to the row. -/
def Made {α : Type} (E : El α) (w : World) (base : Nat) (e : TypeId) (T : Nat → Prop) (v : Value) (xs : List α) : Prop :=
  ∃ css : List (List Value), w.ownsRow base e E.size v xs.length css.flatten ∧ css.length = xs.length ∧
    ∀ (j : Nat) (x : α) (cs : List Value), xs[j]? = some x → css[j]? = some cs → E.R w (fun k => T k ∧ v.ownBlock ≠ some k) x cs

section
variable {α : Type} {E : El α} {w w' : World} {base : Nat} {e : TypeId} {T : Nat → Prop} {v : Value} {xs : List α}

theorem Made.nil (E : El α) (w : World) (base : Nat) (e : TypeId) (T : Nat → Prop) : Made E w base e T (.slice none 0 0) [] :=
  ⟨[], World.ownsRow_nil _ _ _ _, rfl, fun j x cs h => by simp at h⟩
theorem Made.lt (h : Made E w base e T v xs) : ∀ k, v.ownBlock = some k → base ≤ k ∧ k < w.heap.size := by
  obtain ⟨css, hrow, _⟩ := h
  exact hrow.lt
theorem Made.keep (h : Made E w base e T v xs) (hk : Keeps (fun k => T k ∨ v.ownBlock = some k) w w') : Made E w' base e T v xs := by
  obtain ⟨css, hrow, hcl, hr⟩ := h
  exact ⟨css, ownsRow_keep hrow fun k h1 h2 => hk k (.inr h1) h2, hcl, fun j x cs hx hcs => E.keep (hr j x cs hx hcs) (hk.weaken fun k h _ => .inl h.1)⟩
theorem Made.later (h : Made E w base e T v xs) (hk : Fr w w') : Made E w' base e T v xs := h.keep (hk.keeps.weaken fun _ _ _ => trivial)
theorem Made.mono {T' : Nat → Prop} (h : Made E w base e T v xs) (ht : ∀ k, T k → k < w.heap.size → T' k) : Made E w base e T' v xs := by
  obtain ⟨css, hrow, hcl, hr⟩ := h
  exact ⟨css, hrow, hcl, fun j x cs hx hcs => E.mono (hr j x cs hx hcs) fun k h hk => ⟨ht k h.1 hk, h.2⟩⟩
theorem Made.rebase (h : Made E w base e T v xs) {base' : Nat} (hb : base' ≤ base) : Made E w base' e T v xs := by
  obtain ⟨css, hrow, hcl, hr⟩ := h
  refine ⟨css, ⟨hrow.1, ?_⟩, hcl, hr⟩
  rcases hrow.2 with h | ⟨g, cap, cur, hv, h0, r⟩
  · exact .inl h
  · exact .inr ⟨g, cap, cur, hv, Nat.le_trans hb h0, r⟩

theorem Made.slice (h : Made E w base e T v xs) : ∃ A cap, v = .slice A xs.length cap ∧ xs.length ≤ cap := by
  obtain ⟨css, hrow, _⟩ := h
  obtain ⟨A, cap, hv, hc, _⟩ := ownsRow_slice hrow
  exact ⟨A, cap, hv, hc⟩

theorem Made.sliceN {n : Nat} (h : Made E w base e T v xs) (hn : xs.length = n) : ∃ A cap, v = .slice A n cap ∧ n ≤ cap := by
  subst hn
  exact h.slice

/-- What was made can be read. -/
theorem Made.reads (h : Made E w base e T v xs) : Sl E w (fun k => T k ∨ v.ownBlock = some k) v xs := by
  obtain ⟨css, hrow, hcl, hr⟩ := h
  have hm : ∀ cs ∈ css, cs.length = E.size := by
    intro cs hcs
    obtain ⟨j, hj, rfl⟩ := List.mem_iff_getElem.1 hcs
    obtain ⟨x, hx⟩ := get_some (l := xs) (k := j) (by omega)
    exact E.len (hr j x _ hx (List.getElem?_eq_getElem hj))
  obtain ⟨A, cap, hv, hcap, hA⟩ := ownsRow_slice hrow
  refine ⟨A, cap, hv, hcap, fun hn => ?_⟩
  obtain ⟨g, rfl, hg⟩ := hA (fun h => hn (List.eq_nil_of_length_eq_zero h))
  refine ⟨g, 0, rfl, .inr hg, (hrow.lt g hg).2, fun j x hx => ?_⟩
  obtain ⟨cs, hcs⟩ := get_some (l := css) (k := j) (by have := get_lt hx; omega)
  have hR := hr j x cs hx hcs
  refine ⟨cs, fun i u hu => ?_, E.mono hR fun k h _ => .inl h.1⟩
  have hi : i < E.size := by rw [← E.len hR]; exact get_lt hu
  have := hrow.cells hg (j * E.size + i) u (by rw [flatten_get hi hm, hcs]; exact hu)
  rwa [add_plain, show 0 + (j * E.size + i) = 0 + j * E.size + i by omega] at this
end

/-- append(v, y): v a row that was made. W: the world ahead of the block that is laid for y. -/
theorem wpList_append_made {α : Type} (E : El α) {P : Program} {ops : Array Oper} {rest : List Oper} {o : Oper} {a : Act} {Q : Exit → Act → World → Prop} {W : World} (base : Nat) (t e : TypeId) (z : Value) (bytes : Nat) (T : Nat → Prop)
    (hgd : o.guard = none) (s x : Operand) (ho : o.op = .call { callee := .builtin .append, args := #[s, x], argTypes := #[t, t] })
    (ht : P.underlying t = some (.slice e)) (hinfo : (P.info? e).map (fun i => (i.zero, i.size, i.bytes)) = some (some z, E.size, bytes)) (hz : z.cells.size = E.size)
    (v : Value) (xs : List α) (y : α) (cs : List Value) (hs : a.eval s = v) {N : Nat} (hx : a.eval x = .slice (some ⟨N, 0, none⟩) 1 1) (hN : N = W.heap.size)
    (HO : Made E W base e T v xs) (hy : E.R W (fun k => T k ∧ v.ownBlock ≠ some k) y cs) (hbase : base ≤ W.heap.size) (hn : xs.length + 1 ≤ maxLen) (hl : (xs.length + 1) * bytes ≤ 140737488355328)
    (h : ∀ v1 w1, Made E w1 base e (fun k => T k ∧ k < W.heap.size) v1 (xs ++ [y]) → W.grownBy w1 v.ownBlock → (v1.ownBlock = v.ownBlock ∨ v1.ownBlock = some (W.heap.size + 1)) → wpList P ops Q rest (a.put o.dst v1) w1) :
    wpList P ops Q (o :: rest) a (W.alloc (.cells cs.toArray e)) := by
  obtain ⟨css, hrow, hcl, hr⟩ := HO
  refine wpList_append_one base t e z E.size bytes hgd s x ho ht hinfo hz E.pos v xs.length css.flatten cs hs hx hN (E.len hy) (E.one hy) hrow hbase hn hl ?_
  intro v1 w1 hown hg hat
  refine h v1 w1 ⟨css ++ [cs], by simpa using hown, by simp [hcl], ?_⟩ hg hat
  have hne : ∀ k, k < W.heap.size → v.ownBlock ≠ some k → v1.ownBlock ≠ some k := by
    intro k hk hv e
    rcases hat with hat | hat <;> rw [hat] at e
    · exact hv e
    · injection e with e; omega
  have fin : ∀ {x : α} {c : List Value}, E.R W (fun k => T k ∧ v.ownBlock ≠ some k) x c → E.R w1 (fun k => (T k ∧ k < W.heap.size) ∧ v1.ownBlock ≠ some k) x c := by
    intro x c hR
    refine E.mono (E.keep (E.mono hR (S' := fun k => T k ∧ k < W.heap.size ∧ v.ownBlock ≠ some k) fun k hk hl => ⟨hk.1, hl, hk.2⟩) (w' := w1) ?_) fun k hk _ => ⟨⟨hk.1, hk.2.1⟩, hne k hk.2.1 hk.2.2⟩
    exact fun k hk hl => hg.block k hl (fun e => hk.2.2 e.symm)
  intro j x' cs' hx hcs
  by_cases hj : j < xs.length
  · rw [List.getElem?_append_left hj] at hx
    rw [List.getElem?_append_left (by omega)] at hcs
    exact fin (hr j x' cs' hx hcs)
  · have hj2 : j = xs.length := by
      have := get_lt hx
      simp at this; omega
    subst hj2
    simp at hx
    rw [← hcl] at hcs
    simp at hcs
    subst hx; subst hcs
    exact fin hy
end Go.Proofs.Ytbhmpbaembmlnaa
