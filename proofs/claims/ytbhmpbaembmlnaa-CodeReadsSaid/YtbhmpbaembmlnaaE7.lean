/- code.Reader.node, ask at trees, Reader.Node. -/
import Derived.Test.YtbhmpbaembmlnaaE6
import Derived.Laws.EntriesVeiled
set_option linter.unusedVariables false
namespace Go.Proofs.Ytbhmpbaembmlnaa
open Go.RowKit

/-- A tree that was made since B0 blocks. -/
def SinceNd (B0 : Nat) (w' : World) (v : Value) (x : Nd) : Prop := ∃ cs, v = .agg cs.toArray ∧ RN w' (B0 ≤ ·) x cs

abbrev zeroNd : List Value := [.int .i64 0, .int .i64 0, .string ⟨#[]⟩, .slice none 0 0]

set_option maxRecDepth 100000 in
set_option maxHeartbeats 1000000 in
theorem cNode (p B : Nat) (bs : List Int) (a : Nat) (w : World) (h : RdAt w p B bs a (-1)) :
    Calls Try.prog 107 #[.pointer (some ⟨p, 0, none⟩)] w (Reads p B bs (rdTree bs a) (SinceNd w.heap.size) w) := by
  have hp := h.low
  have HR := Lib.hid h
  clear h
  go_enter Try.func107, Try.ntmps107
  go_wp2_with fail
  obtain ⟨W0, hW0⟩ : ∃ W0, W0 = ((((w.alloc (.cells #[.pointer (some ⟨p, 0, none⟩)] 38)).alloc (.cells #[.int .i64 0, .int .i64 0, .string ⟨#[]⟩, .slice none 0 0] 25)).alloc (.cells #[.int .i64 0] 3)).alloc (.cells #[.func (.func 167) #[] #[.pointer (some ⟨w.heap.size, 0, none⟩), .pointer (some ⟨w.heap.size + 1 + 1, 0, none⟩), .pointer (some ⟨w.heap.size + 1 + 1 + 1, 0, none⟩)]] 129)) := ⟨_, rfl⟩
  rw [← hW0]
  have hF : Fr w W0 := by rw [hW0]; exact (((Fr.new w _).alloc _).alloc _).alloc _
  have b0 := (((Blk.new w [.pointer (some ⟨p, 0, none⟩)] 38).alloc (.cells #[.int .i64 0, .int .i64 0, .string ⟨#[]⟩, .slice none 0 0] 25)).alloc (.cells #[.int .i64 0] 3)).alloc (.cells #[.func (.func 167) #[] #[.pointer (some ⟨w.heap.size, 0, none⟩), .pointer (some ⟨w.heap.size + 1 + 1, 0, none⟩), .pointer (some ⟨w.heap.size + 1 + 1 + 1, 0, none⟩)]] 129)
  have b1 := ((Blk.new (w.alloc (.cells #[.pointer (some ⟨p, 0, none⟩)] 38)) zeroNd 25).alloc (.cells #[.int .i64 0] 3)).alloc (.cells #[.func (.func 167) #[] #[.pointer (some ⟨w.heap.size, 0, none⟩), .pointer (some ⟨w.heap.size + 1 + 1, 0, none⟩), .pointer (some ⟨w.heap.size + 1 + 1 + 1, 0, none⟩)]] 129)
  have b2 := (Blk.new ((w.alloc (.cells #[.pointer (some ⟨p, 0, none⟩)] 38)).alloc (.cells #[.int .i64 0, .int .i64 0, .string ⟨#[]⟩, .slice none 0 0] 25)) [.int .i64 0] 3).alloc (.cells #[.func (.func 167) #[] #[.pointer (some ⟨w.heap.size, 0, none⟩), .pointer (some ⟨w.heap.size + 1 + 1, 0, none⟩), .pointer (some ⟨w.heap.size + 1 + 1 + 1, 0, none⟩)]] 129)
  have b3 := Blk.new (((w.alloc (.cells #[.pointer (some ⟨p, 0, none⟩)] 38)).alloc (.cells #[.int .i64 0, .int .i64 0, .string ⟨#[]⟩, .slice none 0 0] 25)).alloc (.cells #[.int .i64 0] 3)) [.func (.func 167) #[] #[.pointer (some ⟨w.heap.size, 0, none⟩), .pointer (some ⟨w.heap.size + 1 + 1, 0, none⟩), .pointer (some ⟨w.heap.size + 1 + 1 + 1, 0, none⟩)]] 129
  simp only [World.size_alloc] at b1 b2 b3
  rw [← hW0] at b0 b1 b2 b3
  have hE : NodeEnv W0 p B w.heap.size (w.heap.size + 1 + 1) (w.heap.size + 1 + 1 + 1) := ⟨b0.rules.1 0, b3.rules.1 0, by omega, by omega, by omega, by omega, by omega, by omega⟩
  have h40 := c167 p B w.heap.size (w.heap.size + 1 + 1) (w.heap.size + 1 + 1 + 1) bs 40 (a, 0) W0 (Nat.le_refl _) hE ⟨HR.out.keep hF, b2, by simp⟩
  rw [show (41 : Int) - ((40 : Nat) : Int) = 1 by decide] at h40
  have hz0 := b3.lt
  have HB1 := Lib.hid b1
  have HF := Lib.hid hF
  clear hW0 b0 b1 b2 b3 hE hF
  refine h40.mono ?_
  clear h40
  rintro e w1 ⟨⟨hT, hc⟩, hr⟩
  have hT2 : RTrn p w w1 := ⟨((Trn.of_fr HF.out).trans hT).mono fun i hi e => e.elim id fun e => by omega, fun u hu => hc u (HF.out.keeps.cell trivial hu)⟩
  have hb1 := HB1.out.trn hT (by intro e; rcases e with e | e <;> omega)
  cases hx : rdNode bs 40 (a, 0) with
  | error b =>
    rw [hx] at hr
    obtain ⟨at', rfl, h', hbl⟩ := hr
    refine ⟨rfl, hT2, ?_⟩
    rw [show rdTree bs a = .error b by simp [rdTree, hx]]
    exact ⟨at', rfl, h', hbl⟩
  | ok r =>
    obtain ⟨x, s⟩ := r
    have Hx : Hid (rdTree bs a = .ok (x, s.1)) := Lib.hid (by simp [rdTree, hx])
    rw [hx] at hr
    obtain ⟨v, rfl, ⟨cs, rfl, hR⟩, hS⟩ := hr
    obtain ⟨A, cap, rfl, -⟩ := hR.open
    have HT2 := Lib.hid hT2
    have HR' := Lib.hid hR
    obtain ⟨f0, f1⟩ := hb1.rules
    have hz1 := hb1.lt
    have hzz := HF.out.size
    clear hx hT hc hT2 hR
    go_wp2
    have b2 := (((hb1.set 0 (.int .i64 x.id)).set 1 (.int .i64 x.kind)).set 2 (.string x.text)).set 3 (.slice A x.kids.length cap)
    obtain ⟨q0, q1⟩ := b2.rules
    refine bodyPost_ret (v := .agg #[.int .i64 x.id, .int .i64 x.kind, .string x.text, .slice A x.kids.length cap]) (by simp [results, Try.results107, go_sem, q0]) rfl ?_
    refine ⟨⟨?_, ?_⟩, ?_⟩
    · exact (((HT2.out.t.set (.inr (by omega)) _ _).set (.inr (by omega)) _ _).set (.inr (by omega)) _ _).set (.inr (by omega)) _ _
    · intro u hu
      have hk : Keeps (· = p) w1 ((((w1.setCell ⟨w.heap.size + 1, 0, none⟩ (.int .i64 x.id)).setCell ⟨w.heap.size + 1, 1, none⟩ (.int .i64 x.kind)).setCell ⟨w.heap.size + 1, 2, none⟩ (.string x.text)).setCell ⟨w.heap.size + 1, 3, none⟩ (.slice A x.kids.length cap)) :=
        ((((Keeps.refl _ w1).set (by omega) _ _).set (by omega) _ _).set (by omega) _ _).set (by omega) _ _
      exact hk.cell rfl (HT2.out.c u hu)
    · rw [Hx.out]
      refine ⟨_, rfl, ⟨_, rfl, ?_⟩, ?_⟩
      · refine RN.mono (HR'.out.keep (((((Keeps.refl _ w1).set ?_ _ _).set ?_ _ _).set ?_ _ _).set ?_ _ _)) (fun k (hk : W0.heap.size ≤ k) _ => (by omega : w.heap.size ≤ k)) <;> omega
      · exact (((hS.1.setFar (by omega) _ _).setFar (by omega) _ _).setFar (by omega) _ _).setFar (by omega) _ _
end Go.Proofs.Ytbhmpbaembmlnaa
