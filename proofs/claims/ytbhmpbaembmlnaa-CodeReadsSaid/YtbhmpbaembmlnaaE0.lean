/- Readers of bytes, in plain words and in memory. -/
import Derived.Test.YtbhmpbaembmlnaaA1
import Derived.Recover
import Derived.Laws.BytesArg
import Derived.OpenShut
set_option linter.unusedVariables false
namespace Go.Proofs.Ytbhmpbaembmlnaa
open Go.RowKit

/-! ### 1. Frames: of what was there, only the blocks of T turn -/

structure Trn (T : Nat → Prop) (w w' : World) : Prop where
  os : w'.os = w.os
  tape : w'.tape = w.tape
  output : w'.output = w.output
  size : w.heap.size ≤ w'.heap.size
  block : ∀ i, i < w.heap.size → ¬ T i → w'.heap[i]? = w.heap[i]?

section
variable {T T' : Nat → Prop} {a b c : World}
theorem Trn.refl (T : Nat → Prop) (w : World) : Trn T w w := ⟨rfl, rfl, rfl, Nat.le_refl _, fun _ _ _ => rfl⟩
theorem Trn.of_fr (h : Fr a b) : Trn T a b := ⟨h.os, h.tape, h.output, h.size, fun i hi _ => h.block i hi⟩
theorem Trn.drewN (h : Trn T a b) (n : Nat) : Trn T a (b.drewN n) := ⟨h.os, h.tape, h.output, h.size, h.block⟩
theorem Trn.trans (h : Trn T a b) (k : Trn T b c) : Trn T a c :=
  ⟨k.os.trans h.os, k.tape.trans h.tape, k.output.trans h.output, Nat.le_trans h.size k.size, fun i hi hne => (k.block i (Nat.lt_of_lt_of_le hi h.size) hne).trans (h.block i hi hne)⟩
theorem Trn.set (h : Trn T a b) {g : Nat} (hg : T g ∨ a.heap.size ≤ g) (off : Nat) (u : Value) : Trn T a (b.setCell ⟨g, off, none⟩ u) :=
  ⟨h.os, h.tape, h.output, Nat.le_trans h.size (by simp), fun i hi hne => (Below.heap_setCell _ _ _ _ (by
    intro e
    subst e
    rcases hg with hg | hg
    · exact hne hg
    · exact absurd hi (Nat.not_lt.2 hg))).trans (h.block i hi hne)⟩
theorem Trn.setp {p : Nat} (h : Trn (· = p) a b) (off : Nat) (u : Value) : Trn (· = p) a (b.setCell ⟨p, off, none⟩ u) := h.set (.inl rfl) off u
theorem Trn.alloc (h : Trn T a b) (o : Obj) : Trn T a (b.alloc o) := h.trans (Trn.of_fr (Fr.new b o))
theorem Trn.mono (h : Trn T a b) (hs : ∀ i, i < a.heap.size → T i → T' i) : Trn T' a b := ⟨h.os, h.tape, h.output, h.size, fun i hi hne => h.block i hi fun ht => hne (hs i hi ht)⟩
theorem Trn.keeps (h : Trn T a b) : Keeps (fun k => ¬ T k) a b := fun k hk hl => h.block k hl hk
/-- What turned was made since. -/
theorem Trn.fr (h : Fr a b) (k : Trn T b c) (hT : ∀ i, i < a.heap.size → ¬ T i) : Fr a c :=
  ⟨k.os.trans h.os, k.tape.trans h.tape, k.output.trans h.output, Nat.le_trans h.size k.size, fun i hi => (k.block i (Nat.lt_of_lt_of_le hi h.size) (hT i hi)).trans (h.block i hi)⟩
theorem Trn.fr' (k : Trn T a c) (hT : ∀ i, i < a.heap.size → ¬ T i) : Fr a c := Trn.fr (Fr.refl a) k hT
theorem Trn.own {row : Option Nat} (h : Trn T a b) (hg : b.grownBy c row) (hr : ∀ k, row = some k → a.heap.size ≤ k) : Trn T a c :=
  ⟨hg.os.trans h.os, hg.tape.trans h.tape, hg.output.trans h.output, Nat.le_trans h.size hg.size, fun i hi hne => (hg.block i (Nat.lt_of_lt_of_le hi h.size) (fun e => by have := hr i e.symm; omega)).trans (h.block i hi hne)⟩
theorem Trn.rules (h : Trn T a b) {g : Nat} (hg : ¬ T g) (hl : g < a.heap.size) : (∀ o, b.cell? ⟨g, o, none⟩ = a.cell? ⟨g, o, none⟩) ∧ (∀ o, b.frozen? ⟨g, o, none⟩ = a.frozen? ⟨g, o, none⟩) := by
  have hb := h.block g hl hg
  exact ⟨fun o => World.cell?_of_block (w := a) (w' := b) (a := ⟨g, o, none⟩) hb, fun o => by simp [World.frozen?, hb]⟩
end
theorem Blk.trn {T : Nat → Prop} {w w' : World} {g : Nat} {cs : List Value} {e : TypeId} (h : Blk w g cs e) (hk : Trn T w w') (hg : ¬ T g) : Blk w' g cs e := h.keep hk.keeps hg

/-! ### 2. What is read, in plain words -/

/-- Whole bytes, as they lie. -/
abbrev elB : El Int := elInt .u8

/-- The next bytes. -/
def rdTake (bs : List Int) (n at_ : Nat) : Except Nat (List Int × Nat) := if bs.length < at_ + n then .error bs.length else .ok ((bs.drop at_).take n, at_ + n)
def numStep (m x : Int) : Int := bits .or .u64 (IntKind.u64.wrap (m * 256)) x
def num (l : List Int) : Int := wrap64 (l.foldl numStep 0)
def rdNum (bs : List Int) (at_ : Nat) : Except Nat (Int × Nat) := if bs.length < at_ + 8 then .error bs.length else .ok (num ((bs.drop at_).take 8), at_ + 8)
def rdSmall (bs : List Int) (at_ : Nat) : Except Nat (Int × Nat) := if bs.length < at_ + 1 then .error bs.length else .ok (IntKind.i8.wrap (bs.getD at_ 0), at_ + 1)
def badCount (bs : List Int) (size most n : Int) (a : Nat) : Bool := decide (n < 0) || (decide (most < n) || decide (((bs.length : Int) - a) / (max size 1) < n))
def rdCount (bs : List Int) (size most : Int) (at_ : Nat) : Except Nat (Int × Nat) := match rdNum bs at_ with
  | .error b => .error b
  | .ok (n, a) => if badCount bs size most n a then .error at_ else .ok (n, a)
def rdText (bs : List Int) (at_ : Nat) : Except Nat (ByteArray × Nat) := match rdCount bs 1 bs.length at_ with
  | .error b => .error b
  | .ok (n, a) => .ok (strOfNums ((bs.drop a).take n.toNat), a + n.toNat)
def rdList {α σ : Type} (f : σ → Except Nat (α × σ)) : Nat → σ → Except Nat (List α × σ)
  | 0, s => .ok ([], s)
  | n + 1, s => match rdList f n s with
    | .error b => .error b
    | .ok (xs, s1) => match f s1 with
      | .error b => .error b
      | .ok (x, s2) => .ok (xs ++ [x], s2)
/-- A node, n levels at most; how many nodes there were. -/
def rdNode (bs : List Int) : Nat → Nat × Nat → Except Nat (Nd × (Nat × Nat))
  | 0, (a, m) => .error a
  | f + 1, (a, m) => if 200 < m + 1 then .error a else match rdNum bs a with
    | .error b => .error b
    | .ok (id, a1) => match rdNum bs a1 with
      | .error b => .error b
      | .ok (kind, a2) => match rdText bs a2 with
        | .error b => .error b
        | .ok (text, a3) => match rdCount bs 32 bs.length a3 with
          | .error b => .error b
          | .ok (n, a4) => match rdList (rdNode bs f) n.toNat (a4, m + 1) with
            | .error b => .error b
            | .ok (kids, s) => .ok (⟨id, kind, text, kids⟩, s)
def rdTree (bs : List Int) (at_ : Nat) : Except Nat (Nd × Nat) := match rdNode bs 40 (at_, 0) with
  | .error b => .error b
  | .ok (x, s) => .ok (x, s.1)
def rdStep (bs : List Int) (at_ : Nat) : Except Nat (Stp × Nat) := match rdSmall bs at_ with
  | .error b => .error b
  | .ok (op, a1) => match rdNum bs a1 with
    | .error b => .error b
    | .ok (id, a2) => match rdNum bs a2 with
      | .error b => .error b
      | .ok (parent, a3) => match rdNum bs a3 with
        | .error b => .error b
        | .ok (place, a4) => match rdText bs a4 with
          | .error b => .error b
          | .ok (text, a5) => match rdTree bs a5 with
            | .error b => .error b
            | .ok (sub, a6) => .ok (⟨op, id, parent, place, text, sub⟩, a6)
def rdSteps (bs : List Int) (at_ : Nat) : Except Nat (List Stp × Nat) := match rdCount bs 57 60 at_ with
  | .error b => .error b
  | .ok (n, a) => rdList (rdStep bs) n.toNat a

/-- Where a reader is: at a byte, or it failed at one. -/
abbrev Rs := Except Nat Nat
/-- What is asked of a reader. -/
def asked {α : Type} (f : Nat → Except Nat (α × Nat)) (zero : α) : Rs → α × Rs
  | .error b => (zero, .error b)
  | .ok a => match f a with
    | .error b => (zero, .error b)
    | .ok (x, a') => (x, .ok a')
def ended (bs : List Int) : Rs → Int × Int
  | .error b => (b, 30)
  | .ok a => if a < bs.length then (a, 30) else (0, 0)

/-! ### 3. A reader of package code in memory -/

/-- A block of three cells; it and the bytes lie below B. -/
def RdAt (w : World) (p B : Nat) (bs : List Int) (at_ : Nat) (bad : Int) : Prop :=
  ∃ A cap, Blk w p [.slice A bs.length cap, .int .i64 at_, .int .i64 bad] 119 ∧ bs.length ≤ cap ∧ Row elB w (fun k => k < B ∧ k ≠ p) A bs ∧ at_ ≤ bs.length ∧ bs.length ≤ 1000000 ∧ p < B ∧ B ≤ w.heap.size

section
variable {w w' : World} {p B : Nat} {bs : List Int} {at_ at2 : Nat} {bad bad' : Int}
theorem RdAt.lt (h : RdAt w p B bs at_ bad) : p < w.heap.size := by
  obtain ⟨A, cap, hb, -⟩ := h
  exact hb.lt
theorem RdAt.low (h : RdAt w p B bs at_ bad) : p < B ∧ B ≤ w.heap.size := by
  obtain ⟨A, cap, -, -, -, -, -, h⟩ := h
  exact h
theorem RdAt.keepB (h : RdAt w p B bs at_ bad) (hk : Keeps (· < B) w w') (hz : w.heap.size ≤ w'.heap.size) : RdAt w' p B bs at_ bad := by
  obtain ⟨A, cap, hb, hc, hr, h1, h2, h3, h4⟩ := h
  exact ⟨A, cap, hb.keep hk h3, hc, hr.keep (hk.weaken fun k hk _ => hk.1) hz, h1, h2, h3, Nat.le_trans h4 hz⟩
theorem RdAt.keep (h : RdAt w p B bs at_ bad) (hk : Fr w w') : RdAt w' p B bs at_ bad := h.keepB hk.keeps.all hk.size
theorem RdAt.set1 (h : RdAt w p B bs at_ bad) (h2 : at2 ≤ bs.length) : RdAt (w.setCell ⟨p, 1, none⟩ (.int .i64 at2)) p B bs at2 bad := by
  obtain ⟨A, cap, hb, hc, hr, h1, h3, h4, h5⟩ := h
  exact ⟨A, cap, hb.set 1 _, hc, hr.keep ((Keeps.refl _ w).set (fun h => h.2 rfl) 1 _) (by simp), h2, h3, h4, by rw [size_set]; exact h5⟩
theorem RdAt.set2 (h : RdAt w p B bs at_ bad) : RdAt (w.setCell ⟨p, 2, none⟩ (.int .i64 bad')) p B bs at_ bad' := by
  obtain ⟨A, cap, hb, hc, hr, h1, h3, h4, h5⟩ := h
  exact ⟨A, cap, hb.set 2 _, hc, hr.keep ((Keeps.refl _ w).set (fun h => h.2 rfl) 2 _) (by simp), h1, h3, h4, by rw [size_set]; exact h5⟩
theorem RdAt.setFar (h : RdAt w p B bs at_ bad) {g : Nat} (hg : B ≤ g) (off : Nat) (u : Value) : RdAt (w.setCell ⟨g, off, none⟩ u) p B bs at_ bad :=
  h.keepB ((Keeps.refl _ w).set (by omega) off u) (by simp)
end

/-- What can't stand there, as a panic. -/
def failed (b : Nat) : PanicEntry := { v := .iface 186 (.agg #[.int .i64 b]), recovered := false }

/-- Only the reader's block turns, and not its first cell. -/
structure RTrn (p : Nat) (w w' : World) : Prop where
  t : Trn (· = p) w w'
  c : ∀ u, w.cell? ⟨p, 0, none⟩ = some u → w'.cell? ⟨p, 0, none⟩ = some u
section
variable {p : Nat} {a b c : World}
theorem RTrn.refl (p : Nat) (w : World) : RTrn p w w := ⟨Trn.refl _ w, fun _ h => h⟩
theorem RTrn.drewN (h : RTrn p a b) (n : Nat) : RTrn p a (b.drewN n) := ⟨h.t.drewN n, h.c⟩
theorem RTrn.set1 (h : RTrn p a b) (u : Value) : RTrn p a (b.setCell ⟨p, 1, none⟩ u) := ⟨h.t.setp 1 u, fun v hv => (World.cell?_setCell_other _ _ _ _ (by simp)).trans (h.c v hv)⟩
theorem RTrn.of_fr (h : Fr a b) : RTrn p a b := ⟨Trn.of_fr h, fun u hu => h.keeps.cell trivial hu⟩
theorem RTrn.trans (h : RTrn p a b) (k : RTrn p b c) : RTrn p a c := ⟨h.t.trans k.t, fun u hu => k.c u (h.c u hu)⟩
theorem RTrn.alloc (h : RTrn p a b) (o : Obj) : RTrn p a (b.alloc o) := h.trans (RTrn.of_fr (Fr.new b o))
end

def Reads {α : Type} (p B : Nat) (bs : List Int) (r : Except Nat (α × Nat)) (V : World → Value → α → Prop) (w : World) (e : Ending) (w' : World) : Prop :=
  RTrn p w w' ∧ match r with
  | .ok (x, at') => ∃ v, e = .returned v ∧ V w' v x ∧ RdAt w' p B bs at' (-1)
  | .error b => ∃ at', e = .panicked [failed b] ∧ RdAt w' p B bs at' (-1) ∧ b ≤ bs.length

end Go.Proofs.Ytbhmpbaembmlnaa
