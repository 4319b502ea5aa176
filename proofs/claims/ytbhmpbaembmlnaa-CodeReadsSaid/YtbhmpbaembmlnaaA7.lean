/- Steps in new memory: normal.copied, allotmentref12.copied; a text put to a node: normal.texted. -/
import Derived.Test.YtbhmpbaembmlnaaA2
set_option linter.unusedVariables false
namespace Go.Proofs.Ytbhmpbaembmlnaa
open Go.RowKit

/-- A step whose tree is one's own. -/
def OwnS (w : World) (S : Nat → Prop) (s : Stp) (cs : List Value) : Prop :=
  ∃ sub, cs = [.int .i8 s.op, .int .i64 s.id, .int .i64 s.parent, .int .i64 s.place, .string s.text] ++ sub ∧ OwnT w S s.sub sub ∧
    (Lit.int .i8 s.op).wf = true ∧ (Lit.int .i64 s.id).wf = true ∧ (Lit.int .i64 s.parent).wf = true ∧ (Lit.int .i64 s.place).wf = true ∧ s.text.size ≤ maxLen
theorem OwnS.reads {w : World} {S : Nat → Prop} {s : Stp} {cs : List Value} (h : OwnS w S s cs) : RStp w S s cs := by
  obtain ⟨sub, rfl, h, r⟩ := h; exact ⟨sub, rfl, h.reads, r⟩
theorem OwnS.keep {w w' : World} {S : Nat → Prop} {s : Stp} {cs : List Value} (h : OwnS w S s cs) (hk : Keeps S w w') : OwnS w' S s cs := by
  obtain ⟨sub, rfl, h, r⟩ := h; exact ⟨sub, rfl, h.keep hk, r⟩
theorem OwnS.mono {w : World} {S S' : Nat → Prop} {s : Stp} {cs : List Value} (h : OwnS w S s cs) (hs : ∀ k, S k → S' k) : OwnS w S' s cs := by
  obtain ⟨sub, rfl, h, r⟩ := h; exact ⟨sub, rfl, h.mono hs, r⟩

def Copied (s : Stp) (w : World) (e : Ending) (w' : World) : Prop := ∃ cs', e = .returned (.agg cs'.toArray) ∧ OwnS w' (fun k => w.heap.size ≤ k ∧ k < w'.heap.size) s cs' ∧ Fr w w'

set_option maxRecDepth 100000 in
set_option maxHeartbeats 2000000 in
theorem nCopied (s : Stp) (cs : List Value) (w : World) (h : RP w s cs) : Calls Try.prog 155 #[.agg cs.toArray] w (Copied s w) := by
  have hwf := h.wfs
  obtain ⟨A, cap, rfl, hs⟩ := h.open
  go_enter Try.func155, Try.ntmps155
  go_wp2_with fail
  refine (tCopy _ s.sub _ _ (Nat.le_refl _) (hs.later ((Fr.new w _).alloc _))).mono ?_
  rintro e w1 ⟨cs', rfl, hO, hbw⟩
  obtain ⟨B', cap2, rfl, -⟩ := hO.reads.open
  have b0 := ((Blk.new w [.int .i8 s.op, .int .i64 s.id, .int .i64 s.parent, .int .i64 s.place, .string s.text, .int .i64 s.sub.id, .int .i64 s.sub.kind, .string s.sub.text, .slice A s.sub.kids.length cap] 27).alloc _).later hbw
  have b1 := (Blk.new (w.alloc _) [.int .i8 0, .int .i64 0, .int .i64 0, .int .i64 0, .string ⟨#[]⟩, .int .i64 0, .int .i64 0, .string ⟨#[]⟩, .slice none 0 0] 27).later hbw
  rw [World.size_alloc] at b1
  obtain ⟨f0, f1⟩ := b0.rules
  obtain ⟨f2, f3⟩ := b1.rules
  have hz := b1.lt
  go_wp2
  refine bodyPost_ret (v := .agg #[.int .i8 s.op, .int .i64 s.id, .int .i64 s.parent, .int .i64 s.place, .string s.text, .int .i64 s.sub.id, .int .i64 s.sub.kind, .string s.sub.text, .slice B' s.sub.kids.length cap2]) (by simp [results, Try.results155, go_sem, f2]) rfl ⟨_, rfl, ?_, ?_⟩
  · refine ⟨_, rfl, OwnT.mono (OwnT.keep hO ?_) (fun k hk => by simp only [size_set]; simp at hk; omega), hwf⟩
    (repeat refine Keeps.set ?_ (by simp; omega) _ _)
    exact Keeps.refl _ _
  · (repeat refine Fr.set ?_ (by omega) _ _)
    exact ((Fr.new w _).alloc _).trans hbw

set_option maxRecDepth 100000 in
set_option maxHeartbeats 2000000 in
theorem rCopied (s : Stp) (cs : List Value) (w : World) (h : RP w s cs) : Calls Try.prog 93 #[.agg cs.toArray] w (Copied s w) := by
  have hwf := h.wfs
  obtain ⟨A, cap, rfl, hs⟩ := h.open
  go_enter Try.func93, Try.ntmps93
  go_wp2_with fail
  refine (rCopy _ s.sub _ _ (Nat.le_refl _) (hs.later ((Fr.new w _).alloc _))).mono ?_
  rintro e w1 ⟨cs', rfl, hO, hbw⟩
  obtain ⟨B', cap2, rfl, -⟩ := hO.reads.open
  have b0 := ((Blk.new w [.int .i8 s.op, .int .i64 s.id, .int .i64 s.parent, .int .i64 s.place, .string s.text, .int .i64 s.sub.id, .int .i64 s.sub.kind, .string s.sub.text, .slice A s.sub.kids.length cap] 27).alloc _).later hbw
  have b1 := (Blk.new (w.alloc _) [.int .i8 0, .int .i64 0, .int .i64 0, .int .i64 0, .string ⟨#[]⟩, .int .i64 0, .int .i64 0, .string ⟨#[]⟩, .slice none 0 0] 27).later hbw
  rw [World.size_alloc] at b1
  obtain ⟨f0, f1⟩ := b0.rules
  obtain ⟨f2, f3⟩ := b1.rules
  have hz := b1.lt
  go_wp2
  refine bodyPost_ret (v := .agg #[.int .i8 s.op, .int .i64 s.id, .int .i64 s.parent, .int .i64 s.place, .string s.text, .int .i64 s.sub.id, .int .i64 s.sub.kind, .string s.sub.text, .slice B' s.sub.kids.length cap2]) (by simp [results, Try.results93, go_sem, f2]) rfl ⟨_, rfl, ?_, ?_⟩
  · refine ⟨_, rfl, OwnT.mono (OwnT.keep hO ?_) (fun k hk => by simp only [size_set]; simp at hk; omega), hwf⟩
    (repeat refine Keeps.set ?_ (by simp; omega) _ _)
    exact Keeps.refl _ _
  · (repeat refine Fr.set ?_ (by omega) _ _)
    exact ((Fr.new w _).alloc _).trans hbw

/-! A text, put to the first node of an id. -/

mutual
def Nd.withText : Nd → Int → ByteArray → Option Nd
  | ⟨i, k, x, l⟩, id, s => if i = id then some ⟨i, k, s, l⟩ else (withTextL l id s).map fun l' => ⟨i, k, x, l'⟩
def withTextL : List Nd → Int → ByteArray → Option (List Nd)
  | [], _, _ => none
  | x :: l, id, s => match x.withText id s with
    | some y => some (y :: l)
    | none => (withTextL l id s).map fun l' => x :: l'
end
theorem Nd.withText_eq (t : Nd) (id : Int) (s : ByteArray) : t.withText id s = if t.id = id then some ⟨t.id, t.kind, s, t.kids⟩ else (withTextL t.kids id s).map fun l' => ⟨t.id, t.kind, t.text, l'⟩ := by
  cases t; rw [Nd.withText]
theorem withTextL_none {id : Int} {s : ByteArray} : ∀ {l : List Nd}, (∀ (j : Nat) (x : Nd), l[j]? = some x → x.withText id s = none) → withTextL l id s = none
  | [], _ => by rw [withTextL]
  | x :: l, h => by
    rw [withTextL, h 0 x rfl]
    simp only
    rw [withTextL_none fun j y hy => h (j + 1) y hy]; rfl
theorem withTextL_some {id : Int} {s : ByteArray} {y : Nd} : ∀ {l : List Nd} {k : Nat}, (∀ (j : Nat) (x : Nd), j < k → l[j]? = some x → x.withText id s = none) → (∃ x, l[k]? = some x ∧ x.withText id s = some y) → withTextL l id s = some (l.set k y)
  | [], k, _, h => by obtain ⟨x, hx, _⟩ := h; simp at hx
  | x :: l, 0, _, h => by
    obtain ⟨x', hx, he⟩ := h
    simp at hx
    subst hx
    rw [withTextL, he]; rfl
  | x :: l, k + 1, h, h2 => by
    rw [withTextL, h 0 x (by omega) rfl]
    simp only
    rw [withTextL_some (k := k) (fun j z hj hz => h (j + 1) z (by omega) hz) h2]; rfl
end Go.Proofs.Ytbhmpbaembmlnaa
