/- normal.Steps, normal.Of. -/
import Derived.Test.YtbhmpbaembmlnaaB8
set_option linter.unusedVariables false
namespace Go.Proofs.Ytbhmpbaembmlnaa
open Go.RowKit Go.Shelf
attribute [local go_sem] Oper.semAt_some

theorem Keeps.putObj {S : Nat → Prop} {a b : World} (h : Keeps S a b) {g : Nat} (hg : ¬ S g) (o : Obj) : Keeps S a (b.putObj g o) :=
  fun k hk hl => (World.putObj_heap_other (by rintro rfl; exact hg hk)).trans (h k hk hl)
theorem Blk.putObj {w : World} {g : Nat} {cs : List Value} {e : TypeId} (h : Blk w g cs e) {g' : Nat} (hg : g ≠ g') (o : Obj) : Blk (w.putObj g' o) g cs e :=
  (World.putObj_heap_other hg).trans h

theorem nSteps (v : Value) (w : World) (hv : ∃ A n cap, v = .slice A n cap) : Calls Try.prog 96 #[v] w fun e w' => e = .returned (.func (.func 160) #[] #[.pointer (some ⟨w.heap.size, 0, none⟩)]) ∧ w' = w.alloc (.cells #[v] 29) := by
  obtain ⟨A, n, cap, rfl⟩ := hv
  go_enter Try.func96, Try.ntmps96
  go_wp2
  go_ret
  exact ⟨rfl, rfl⟩

set_option maxRecDepth 100000 in
set_option maxHeartbeats 4000000 in
/-- 'for x := range Steps(l)': every round puts its word into one box. -/
theorem wpIn_range_steps {n : Nat} (h1 : 2 ≤ n) {g : Operand} {ps : Array Tmp} {assign body : Code} {Q : Exit → Act → World → Prop} {a : Act} {W0 : World} {B : Nat}
    (hg : a.eval g = .func (.func 160) #[] #[.pointer (some ⟨B + 1, 0, none⟩)]) (hps : ps.size = 1) (hsz : W0.heap.size = B + 2) (xs0 : List Stp) (hlen : xs0.length ≤ 1000000)
    (hu : Blk W0 B [.slice none 0 0] 29) (v0 : Value) (hBs : Blk W0 (B + 1) [v0] 29) (hv : Sl elStp W0 (Safe B) v0 xs0) (a₁ : Value → Act)
    (hassign : ∀ (l : Nat) (v : Value) (W : World) (K : Act → World → Prop), K (a₁ v) W →
      assign.wpIn (Fence.wide.inRound l) (n - 1 - 1) Try.prog (Exit.then K (fun _ _ _ => False)) { tmps := (ps.zip #[v]).foldl (fun t (p, v) => t.setIfInBounds p v) a.tmps, defers := [] } W)
    (hbody : ∀ (l : Nat) (A : Option Addr) (m c : Nat) (u : Value) (W : World), Blk W B [u] 29 → body.wpIn (Fence.wide.inRound l) (n - 1 - 1) Try.prog (fun e _ W' => e = .normal ∧ W' = W.setCell ⟨B, 0, none⟩ (.slice A m c)) (a₁ (.slice A m c)) W)
    (hdone : ∀ (u : Value) (W : World), Blk W B [u] 29 → Sl elStp W (Safe B) u (ofS xs0) → Below B W0 W → W.heap[B + 2]? = some (.deferred (some [])) → Q .normal { a with defers := { target := .collected (B + 2), args := #[] } :: a.defers } W) :
    (Code.rangeFunc g ps assign body).wpIn Fence.wide n Try.prog Q a W0 := by
  refine wpIn_rangeFunc ?_
  intro fn hfn
  show ∃ l mark w₁ d w₁' f args w₂, (Instr.enterLoop fn a.tmps ps assign body none).run Try.prog W0 = _ ∧ _
  obtain ⟨rr, hrr⟩ : ∃ rr : Loop, rr = { state := .ready, pending := none, fn, tmps := a.tmps, params := ps, assign, body, defers := W0.heap.size } := ⟨_, rfl⟩
  obtain ⟨W1, hW1⟩ : ∃ W1, (W0.alloc (.deferred (some []))).alloc (.loop rr) = W1 := ⟨_, rfl⟩
  have hL1 : W1.heap[B + 3]? = some (.loop rr) := by
    rw [← hW1]; have := World.alloc_heap_new (w := W0.alloc (.deferred (some []))) (.loop rr); rwa [World.size_alloc, hsz] at this
  have hK1 : W1.heap[B + 2]? = some (.deferred (some [])) := by
    rw [← hW1, ← hsz]; exact (Below.heap_alloc _ _ _ (by simp)).trans (World.alloc_heap_new W0 _)
  have hF1 : Fr W0 W1 := by rw [← hW1]; exact (Fr.new W0 _).alloc _
  have hs1 : W1.heap.size = B + 4 := by rw [← hW1]; simp [hsz]
  refine ⟨W0.heap.size + 1, [{ target := .collected W0.heap.size, args := #[] }], W1, { target := .fn (.func 160) #[.pointer (some ⟨B + 1, 0, none⟩)], args := #[.func (.yield (W0.heap.size + 1)) #[] #[]] }, W1, 160,
    #[.func (.yield (W0.heap.size + 1)) #[] #[]] ++ #[.pointer (some ⟨B + 1, 0, none⟩)], W1, ?_, ?_, ?_, ?_, fun _ => by omega, ?_⟩
  · rw [← hW1, hrr]; exact run_enterLoop_outer _ _ _ _ _
  · simp only [resolve, hg]
    simp [go_sem]
  · intro f' hf'; exact trivial
  · have eg := enters_of Try.func160 (by kernel_rfl) rfl
    simp [invoke, go_sem]
  · rw [hsz]
    refine (steps1_in (n - 1) (by omega) (B + 3) B xs0
      (fun ys W => (∃ u, Blk W B [u] 29 ∧ Sl elStp W (Safe B) u ys) ∧ W.heap[B + 3]? = some (.loop rr) ∧ W.heap[B + 2]? = some (.deferred (some [])) ∧ Below B W0 W ∧ B + 4 ≤ W.heap.size)
      ?hJ ?hY W1 hlen v0 (hBs.later hF1) (hv.keep hF1.keeps.all hF1.size) (by omega) ⟨⟨_, hu.later hF1, _, _, rfl, Nat.le_refl _, Row.nil _ _ _ _⟩, hL1, hK1, hF1.mono (by omega), by omega⟩).mono ?_
    case hJ =>
      rintro ys A W ⟨⟨u, hb, hs⟩, hl, hk, hbl, hz⟩ hgr
      have hlt := hb.lt
      have hkp : Keeps (fun k => k ≠ B + 1) A W := (Keeps.of_grown hgr).weaken fun k hk _ e => hk (by injection e with e; exact e.symm)
      refine ⟨⟨u, hb.keep hkp (by omega), hs.keep (hkp.weaken fun k hk _ => by rcases hk with hk | hk <;> omega) hgr.size⟩, (hkp (B + 3) (by omega) (by omega)).trans hl, (hkp (B + 2) (by omega) (by omega)).trans hk, hbl.trans ?_, Nat.le_trans hz hgr.size⟩
      exact ⟨hgr.os, hgr.tape, hgr.output, hgr.size, fun k hk => hkp k (by omega) (by omega)⟩
    case hY =>
      rintro last ys v W ⟨⟨u, hb, hs⟩, hl, hk, hbl, hz⟩ hv
      have hv' := hv
      obtain ⟨A, cap, rfl, -⟩ := hv'
      have hy := run_yield (P := Try.prog) (args := #[.slice A ys.length cap]) hl (by rw [hrr]; simp [hps])
      rw [show rr.fn = fn by rw [hrr], show rr.params = ps by rw [hrr], show rr.tmps = a.tmps by rw [hrr], show rr.assign = assign by rw [hrr], show rr.body = body by rw [hrr]] at hy
      refine ⟨fn, _, assign, body, hy, roundIn_of_wpIn hfn (hassign _ _ W _ ⟨_, run_beginRound hl (by rw [hrr]), ?_⟩)⟩
      have hl2 : (W.putObj (B + 3) (.loop { rr with state := .busy })).heap[B + 3]? = some (.loop { rr with state := .busy }) := World.putObj_heap_same (by omega)
      have hb2 : Blk (W.putObj (B + 3) (.loop { rr with state := .busy })) B [u] 29 := hb.putObj (by omega) _
      refine wpIn_mono (hbody (B + 3) A ys.length cap u _ hb2) ?_
      rintro e a3 W3 ⟨rfl, rfl⟩
      have hl3 : ((W.putObj (B + 3) (.loop { rr with state := .busy })).setCell ⟨B, 0, none⟩ (.slice A ys.length cap)).heap[B + 3]? = some (.loop { rr with state := .busy }) := (Below.heap_setCell _ _ _ _ (by simp)).trans hl2
      have hend : (Instr.endRound (B + 3) none).run Try.prog ((W.putObj (B + 3) (.loop { rr with state := .busy })).setCell ⟨B, 0, none⟩ (.slice A ys.length cap)) = .ok (.bool true) (((W.putObj (B + 3) (.loop { rr with state := .busy })).setCell ⟨B, 0, none⟩ (.slice A ys.length cap)).putObj (B + 3) (.loop rr)) :=
        (run_endRound (P := Try.prog) none hl3).trans (by rw [hrr]; rfl)
      have hk2 : (W.putObj (B + 3) (.loop { rr with state := .busy })).heap[B + 2]? = some (.deferred (some [])) := (World.putObj_heap_other (by omega)).trans hk
      have hk3 : ((W.putObj (B + 3) (.loop { rr with state := .busy })).setCell ⟨B, 0, none⟩ (.slice A ys.length cap)).heap[B + 2]? = some (.deferred (some [])) := (Below.heap_setCell _ _ _ _ (by simp)).trans hk2
      have hK : Keeps (fun k => k ≠ B ∧ k ≠ B + 3) W (((W.putObj (B + 3) (.loop { rr with state := .busy })).setCell ⟨B, 0, none⟩ (.slice A ys.length cap)).putObj (B + 3) (.loop rr)) :=
        (((Keeps.refl _ W).putObj (fun h => h.2 rfl) _).set (fun h => h.1 rfl) _ _).putObj (fun h => h.2 rfl) _
      have hsz5 : (((W.putObj (B + 3) (.loop { rr with state := .busy })).setCell ⟨B, 0, none⟩ (.slice A ys.length cap)).putObj (B + 3) (.loop rr)).heap.size = W.heap.size := by simp
      refine ⟨_, _, hend, rfl, ⟨⟨.slice A ys.length cap, ?_, ?_⟩, ?_, ?_, ?_, ?_⟩, ?_⟩
      · exact (hb2.set 0 _).putObj (by omega) _
      · exact hv.keep (hK.weaken fun k hk _ => by rcases hk with hk | hk <;> omega) (by rw [hsz5]; exact Nat.le_refl _)
      · exact World.putObj_heap_same (by simp; omega)
      · exact (World.putObj_heap_other (by omega)).trans hk3
      · exact hbl.trans ⟨rfl, rfl, rfl, by rw [hsz5]; exact Nat.le_refl _, fun k hk => hK k (by omega) (by omega)⟩
      · rw [hsz5]; exact hz
      · exact ⟨rfl, rfl, rfl, by rw [hsz5]; exact Nat.le_refl _, hK.weaken fun k hk _ => by rcases hk with hk | hk | hk <;> omega⟩
    · rintro e W2 ⟨⟨v, rfl⟩, ⟨u, hb, hs⟩, hl, hk, hbl, hz⟩
      refine ⟨none, _, by have := run_endLoop (P := Try.prog) hl (by rw [hrr]; simp); rw [show rr.pending = none by rw [hrr]] at this; exact this, hdone u _ (hb.putObj (by omega) _) ?_ ?_ ((World.putObj_heap_other (by omega)).trans hk)⟩
      · exact hs.keep ((Keeps.refl _ _).putObj (fun h => by rcases h with h | h <;> omega) _) (by simp)
      · exact hbl.trans ⟨rfl, rfl, rfl, by simp, fun k hk => World.putObj_heap_other (by omega)⟩
end Go.Proofs.Ytbhmpbaembmlnaa
