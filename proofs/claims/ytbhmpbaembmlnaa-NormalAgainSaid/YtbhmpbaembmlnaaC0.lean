/- normal.Of. -/
import Derived.Test.YtbhmpbaembmlnaaB9
set_option linter.unusedVariables false
namespace Go.Proofs.Ytbhmpbaembmlnaa
open Go.RowKit Go.Shelf
attribute [local go_sem] Oper.semAt_some

set_option maxRecDepth 100000 in
set_option maxHeartbeats 4000000 in
theorem nOf (xs : List Stp) (v : Value) (w : World) (h : SlT elStp w v xs) (hlen : xs.length ≤ 1000000) : Calls Try.prog 23 #[v] w fun e w' => ∃ A cap, e = .returned (.slice A (ofS xs).length cap) ∧ SlT elStp w' (.slice A (ofS xs).length cap) (ofS xs) ∧ Fr w w' := by
  have h0 := h
  obtain ⟨A, cap, rfl, -⟩ := h0
  refine (callsIn_wide (n := 5)).1 ?_
  refine callsIn_of_wp_marks Try.func23 rfl trivial ?_ rfl
  simp only [Try.ntmps23, List.size_toArray, List.length_cons, List.length_nil, Nat.reduceAdd, Nat.reduceSub, Array.replicate_succ, Array.replicate_zero, List.push_toArray, List.append_toArray, List.nil_append, List.cons_append]
  have H := Lib.hid h
  clear h
  gi_wp2
  refine ⟨trivial, (callsIn_wide.2 (nSteps _ _ ⟨_, _, _, rfl⟩)).mono ?_⟩
  rintro e w1 ⟨rfl, rfl⟩
  gi_wp2
  have b0 := (Blk.new w [.slice none 0 0] 29).alloc (.cells #[.slice A xs.length cap] 29)
  have b1 := Blk.new (w.alloc (.cells #[.slice none 0 0] 29)) [.slice A xs.length cap] 29
  rw [World.size_alloc] at b1
  have hF : Fr w ((w.alloc (.cells #[.slice none 0 0] 29)).alloc (.cells #[.slice A xs.length cap] 29)) := (Fr.new w _).alloc _
  have hs := (Sl.mono H.out (S' := fun k => k < w.heap.size) fun k _ hk => hk).keep hF.keeps.all hF.size
  refine wpIn_range_steps (B := w.heap.size) (n := 5) (by decide) rfl rfl (by simp) xs hlen b0 _ b1 (hs.mono fun k hk _ => Or.inl hk)
    (fun v => { tmps := #[.slice A xs.length cap, undef, .pointer (some ⟨w.heap.size, 0, none⟩), v, .slice A xs.length cap, .func (.func 160) #[] #[.pointer (some ⟨w.heap.size + 1, 0, none⟩)], v, undef, undef], defers := [] }) ?assign ?body ?done
  case assign =>
    intro l v W K hK
    gi_wp2
    exact hK
  case body =>
    intro l A m c u W hb
    obtain ⟨f0, f1⟩ := hb.rules
    gi_wp2
  case done =>
    intro u W hb hs hbl hk
    have Hs := Lib.hid hs
    obtain ⟨A2, cap2, rfl, -⟩ := hs
    obtain ⟨f0, f1⟩ := hb.rules
    have hz := hb.lt
    gi_wp2
    have hk2 : (W.setCell ⟨w.heap.size, 0, none⟩ (.slice A2 (ofS xs).length cap2)).heap[w.heap.size + 2]? = some (.deferred (some [])) := (Below.heap_setCell _ _ _ _ (by simp)).trans hk
    have hb2 : Blk ((W.setCell ⟨w.heap.size, 0, none⟩ (.slice A2 (ofS xs).length cap2)).putObj (w.heap.size + 2) (.deferred none)) w.heap.size [.slice A2 (ofS xs).length cap2] 29 := (hb.set 0 (.slice A2 (ofS xs).length cap2)).putObj (by omega) _
    have hK : Keeps (fun k => k ≠ w.heap.size ∧ k ≠ w.heap.size + 2) W ((W.setCell ⟨w.heap.size, 0, none⟩ (.slice A2 (ofS xs).length cap2)).putObj (w.heap.size + 2) (.deferred none)) :=
      ((Keeps.refl _ W).set (fun h => h.1 rfl) _ _).putObj (fun h => h.2 rfl) _
    have hsz : ((W.setCell ⟨w.heap.size, 0, none⟩ (.slice A2 (ofS xs).length cap2)).putObj (w.heap.size + 2) (.deferred none)).heap.size = W.heap.size := by simp
    have hc5 := hb2.rules.1 0
    simp only [List.getElem?_cons_zero] at hc5
    refine ⟨by simp, .inl ⟨_, _, rfl, run_takeDeferred hk2, ?_⟩⟩
    refine ⟨.slice A2 (ofS xs).length cap2, ?_, A2, cap2, rfl, ?_, ?_⟩
    · simp [results, Try.results23, go_sem, hc5]
    · exact ((Hs.out.keep (hK.weaken fun k hk _ => by rcases hk with hk | hk <;> omega) (by rw [hsz]; exact Nat.le_refl _))).mono fun _ _ _ => trivial
    · exact Below.trans hF (Below.trans hbl ⟨rfl, rfl, rfl, by rw [hsz]; exact Nat.le_refl _, fun k hk => hK k ⟨by omega, by omega⟩ (by omega)⟩)
end Go.Proofs.Ytbhmpbaembmlnaa
