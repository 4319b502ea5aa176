/- code.Reader.step. -/
import Derived.Test.YtbhmpbaembmlnaaE7
set_option linter.unusedVariables false
namespace Go.Proofs.Ytbhmpbaembmlnaa
open Go.RowKit

def SinceStp (B0 : Nat) (w' : World) (v : Value) (x : Stp) : Prop := ∃ cs, v = .agg cs.toArray ∧ RStp w' (B0 ≤ ·) x cs

/-- In the middle of a step: w the world at the call. -/
structure MidS (w : World) (p B : Nat) (bs : List Int) (W : World) (a : Nat) (xs : List Value) : Prop where
  T : RTrn p w W
  R : RdAt W p B bs a (-1)
  x : Blk W w.heap.size xs 27
  pB : p < B
  Bz : B ≤ w.heap.size

section
variable {w W W' : World} {p B : Nat} {bs : List Int} {a a' : Nat} {xs : List Value}
theorem MidS.reads (h : MidS w p B bs W a xs) (hT : RTrn p W W') (hR : RdAt W' p B bs a' (-1)) : MidS w p B bs W' a' xs := by
  have := h.pB; have := h.Bz
  exact ⟨h.T.trans hT, hR, h.x.trn hT.t (by omega), h.pB, h.Bz⟩
theorem MidS.setx (h : MidS w p B bs W a xs) (j : Nat) (u : Value) : MidS w p B bs (W.setCell ⟨w.heap.size, j, none⟩ u) a (xs.set j u) := by
  have := h.pB; have := h.Bz
  have hk : Keeps (· < w.heap.size) W (W.setCell ⟨w.heap.size, j, none⟩ u) := (Keeps.refl _ W).set (by omega) j u
  exact ⟨⟨h.T.t.set (.inr (by omega)) _ _, fun u hu => hk.cell (by omega) (h.T.c u hu)⟩, h.R.setFar (by omega) _ _, h.x.set _ _, h.pB, h.Bz⟩
theorem MidS.bad {α : Type} {V : World → Value → α → Prop} {b at' : Nat} {r : Except Nat (α × Nat)} (h : MidS w p B bs W a xs) (hT : RTrn p W W') (hR : RdAt W' p B bs at' (-1)) (hb : b ≤ bs.length) (hr : r = .error b) :
    Reads p B bs r V w (.panicked [failed b]) W' := by
  subst hr
  exact ⟨h.T.trans hT, at', rfl, hR, hb⟩
end

set_option maxRecDepth 100000 in
set_option maxHeartbeats 4000000 in
theorem cStep (p B : Nat) (bs : List Int) (a : Nat) (w : World) (h : RdAt w p B bs a (-1)) :
    Calls Try.prog 113 #[.pointer (some ⟨p, 0, none⟩)] w (Reads p B bs (rdStep bs a) (SinceStp w.heap.size) w) := by
  have hp := h.low
  have hM0 : MidS w p B bs (w.alloc (.cells #[.int .i8 0, .int .i64 0, .int .i64 0, .int .i64 0, .string ⟨#[]⟩, .int .i64 0, .int .i64 0, .string ⟨#[]⟩, .slice none 0 0] 27)) a
      [.int .i8 0, .int .i64 0, .int .i64 0, .int .i64 0, .string ⟨#[]⟩, .int .i64 0, .int .i64 0, .string ⟨#[]⟩, .slice none 0 0] := ⟨RTrn.of_fr (Fr.new w _), h.keep (Fr.new w _), Blk.new w _ 27, hp.1, hp.2⟩
  have HM0 := Lib.hid hM0
  clear h hM0
  go_enter Try.func113, Try.ntmps113
  go_wp2_with fail
  refine (cSmall p B bs a _ HM0.out.R).mono ?_
  rintro e w1 ⟨hT, hr⟩
  cases hn : rdSmall bs a with
  | error b =>
    rw [hn] at hr
    obtain ⟨at', rfl, h', hbl⟩ := hr
    exact ⟨rfl, HM0.out.bad hT h' hbl (by simp [rdStep, hn])⟩
  | ok r =>
  obtain ⟨op, a1⟩ := r
  rw [hn] at hr
  obtain ⟨v, rfl, ⟨rfl, wf0⟩, h'⟩ := hr
  have HM1 := Lib.hid (HM0.out.reads hT h')
  have H1 := Lib.hid hn
  clear hT h' hn
  obtain ⟨r1, r2⟩ := HM1.out.x.rules
  have r3 := HM1.out.x.lt
  go_wp2_with fail
  have HM2 := Lib.hid (HM1.out.setx 0 (.int .i8 op))
  refine (cNumber p B bs a1 _ HM2.out.R).mono ?_
  rintro e w2 ⟨hT, hr⟩
  cases hn : rdNum bs a1 with
  | error b =>
    rw [hn] at hr
    obtain ⟨at', rfl, h', hbl⟩ := hr
    exact ⟨rfl, HM2.out.bad hT h' hbl (by simp [rdStep, H1.out, hn])⟩
  | ok r =>
  obtain ⟨id, a2⟩ := r
  rw [hn] at hr
  obtain ⟨v, rfl, ⟨rfl, wf1⟩, h'⟩ := hr
  have HM3 := Lib.hid (HM2.out.reads hT h')
  have H2 := Lib.hid hn
  clear hT h' hn r1 r2 r3
  obtain ⟨r1, r2⟩ := HM3.out.x.rules
  have r3 := HM3.out.x.lt
  go_wp2_with fail
  have HM4 := Lib.hid (HM3.out.setx 1 (.int .i64 id))
  refine (cNumber p B bs a2 _ HM4.out.R).mono ?_
  rintro e w3 ⟨hT, hr⟩
  cases hn : rdNum bs a2 with
  | error b =>
    rw [hn] at hr
    obtain ⟨at', rfl, h', hbl⟩ := hr
    exact ⟨rfl, HM4.out.bad hT h' hbl (by simp [rdStep, H1.out, H2.out, hn])⟩
  | ok r =>
  obtain ⟨parent, a3⟩ := r
  rw [hn] at hr
  obtain ⟨v, rfl, ⟨rfl, wf2⟩, h'⟩ := hr
  have HM5 := Lib.hid (HM4.out.reads hT h')
  have H3 := Lib.hid hn
  clear hT h' hn r1 r2 r3
  obtain ⟨r1, r2⟩ := HM5.out.x.rules
  have r3 := HM5.out.x.lt
  go_wp2_with fail
  have HM6 := Lib.hid (HM5.out.setx 2 (.int .i64 parent))
  refine (cNumber p B bs a3 _ HM6.out.R).mono ?_
  rintro e w4 ⟨hT, hr⟩
  cases hn : rdNum bs a3 with
  | error b =>
    rw [hn] at hr
    obtain ⟨at', rfl, h', hbl⟩ := hr
    exact ⟨rfl, HM6.out.bad hT h' hbl (by simp [rdStep, H1.out, H2.out, H3.out, hn])⟩
  | ok r =>
  obtain ⟨place, a4⟩ := r
  rw [hn] at hr
  obtain ⟨v, rfl, ⟨rfl, wf3⟩, h'⟩ := hr
  have HM7 := Lib.hid (HM6.out.reads hT h')
  have H4 := Lib.hid hn
  clear hT h' hn r1 r2 r3
  obtain ⟨r1, r2⟩ := HM7.out.x.rules
  have r3 := HM7.out.x.lt
  go_wp2_with fail
  have HM8 := Lib.hid (HM7.out.setx 3 (.int .i64 place))
  refine (cText p B bs a4 _ HM8.out.R).mono ?_
  rintro e w5 ⟨hT, hr⟩
  cases hn : rdText bs a4 with
  | error b =>
    rw [hn] at hr
    obtain ⟨at', rfl, h', hbl⟩ := hr
    exact ⟨rfl, HM8.out.bad hT h' hbl (by simp [rdStep, H1.out, H2.out, H3.out, H4.out, hn])⟩
  | ok r =>
  obtain ⟨text, a5⟩ := r
  rw [hn] at hr
  obtain ⟨v, rfl, ⟨rfl, wf4⟩, h'⟩ := hr
  have HM9 := Lib.hid (HM8.out.reads hT h')
  have H5 := Lib.hid hn
  clear hT h' hn r1 r2 r3
  obtain ⟨r1, r2⟩ := HM9.out.x.rules
  have r3 := HM9.out.x.lt
  go_wp2_with fail
  have HMa := Lib.hid (HM9.out.setx 4 (.string text))
  refine (cNode p B bs a5 _ HMa.out.R).mono ?_
  rintro e w6 ⟨hT, hr⟩
  cases hn : rdTree bs a5 with
  | error b =>
    rw [hn] at hr
    obtain ⟨at', rfl, h', hbl⟩ := hr
    exact ⟨rfl, HMa.out.bad hT h' hbl (by simp [rdStep, H1.out, H2.out, H3.out, H4.out, H5.out, hn])⟩
  | ok r =>
  obtain ⟨sub, a6⟩ := r
  rw [hn] at hr
  obtain ⟨v, rfl, ⟨cs, rfl, hR⟩, h'⟩ := hr
  rw [size_set] at hR
  obtain ⟨A, cap, rfl, -⟩ := hR.open
  have HMb := Lib.hid (HMa.out.reads hT h')
  have HRd : Hid (rdStep bs a = .ok (⟨op, id, parent, place, text, sub⟩, a6)) := Lib.hid (by simp [rdStep, H1.out, H2.out, H3.out, H4.out, H5.out, hn])
  have HR := Lib.hid hR
  have hz5 := HM9.out.x.lt
  clear hT h' hn hR r1 r2 r3
  obtain ⟨r1, r2⟩ := HMb.out.x.rules
  have r3 := HMb.out.x.lt
  go_wp2
  have HMc := (((((((((((((HMb.out.setx 5 (.int .i64 sub.id)).setx 6 (.int .i64 sub.kind)).setx 7 (.string sub.text)).setx 8 (.slice A sub.kids.length cap)).setx 0 (.int .i8 op)).setx 1 (.int .i64 id)).setx 2 (.int .i64 parent)).setx 3 (.int .i64 place)).setx 4 (.string text)).setx 5 (.int .i64 sub.id)).setx 6 (.int .i64 sub.kind)).setx 7 (.string sub.text)).setx 8 (.slice A sub.kids.length cap))
  obtain ⟨q0, q1⟩ := HMc.x.rules
  refine bodyPost_ret (v := .agg #[.int .i8 op, .int .i64 id, .int .i64 parent, .int .i64 place, .string text, .int .i64 sub.id, .int .i64 sub.kind, .string sub.text, .slice A sub.kids.length cap]) (by simp [results, Try.results113, go_sem, q0]) rfl ?_
  refine ⟨HMc.T, ?_⟩
  rw [HRd.out]
  refine ⟨_, rfl, ⟨_, rfl, [.int .i64 sub.id, .int .i64 sub.kind, .string sub.text, .slice A sub.kids.length cap], rfl, ?_, wf0, wf1, wf2, wf3, wf4⟩, HMc.R⟩
  have hz0 := HM9.out.x.lt
  refine RN.mono (RN.keep HR.out ?_) (fun k (hk : w5.heap.size ≤ k) _ => (by omega : w.heap.size ≤ k))
  (repeat (with_reducible refine Keeps.set ?_ (by omega) _ _))
  exact Keeps.refl _ _
end Go.Proofs.Ytbhmpbaembmlnaa
