/- normal.Is, slices.Clone at steps, allotmentlaw12.text. -/
import Derived.Test.YtbhmpbaembmlnaaB5
import Derived.WalkSpells
set_option linter.unusedVariables false
namespace Go.Proofs.Ytbhmpbaembmlnaa
open Go.RowKit

set_option maxRecDepth 100000 in
set_option maxHeartbeats 4000000 in
theorem nIs (xs : List Stp) (v : Value) (w : World) (h : SlT elStp w v xs) (hlen : xs.length ≤ 1000000) : Calls Try.prog 24 #[v] w fun e w' => e = .returned (.bool (onceS xs).isNone) ∧ Fr w w' := by
  go_enter Try.func24, Try.ntmps24
  go_wp2_with fail
  refine (nOnce _ xs v _ h hlen).mono ?_
  rintro e w1 ⟨v1, rfl, hs, hf⟩
  obtain ⟨A, cap, rfl, -⟩ := hs
  have HF := Lib.hid hf
  go_wp2
  go_ret
  refine ⟨?_, HF.out⟩
  cases onceS xs <;> rfl

theorem lText (id : Int) (s : ByteArray) (w : World) : Calls Try.prog 91 #[.int .i64 id, .string s] w fun e w' => e = .returned (.agg #[.int .i8 4, .int .i64 id, .int .i64 0, .int .i64 0, .string s, .int .i64 0, .int .i64 0, .string ⟨#[]⟩, .slice none 0 0]) ∧ Fr w w' := by
  go_enter Try.func91, Try.ntmps91
  go_wp2
  refine bodyPost_ret (v := .agg #[.int .i8 4, .int .i64 id, .int .i64 0, .int .i64 0, .string s, .int .i64 0, .int .i64 0, .string ⟨#[]⟩, .slice none 0 0]) (by simp [results, Try.results91, go_sem]) rfl ⟨rfl, ?_⟩
  (repeat (first | with_reducible refine Fr.set ?_ (by omega) _ _ | with_reducible refine Fr.alloc ?_ _))
  exact Fr.refl _

def Cloned (S : Nat → Prop) (xs : List Stp) (w : World) (e : Ending) (w' : World) : Prop :=
  ∃ A cap, e = .returned (.slice A xs.length cap) ∧ Fr w w' ∧ (xs ≠ [] → Made elStp w' w.heap.size 27 S (.slice A xs.length cap) xs)

set_option maxRecDepth 100000 in
set_option maxHeartbeats 4000000 in
theorem sClone (S : Nat → Prop) (xs : List Stp) (v : Value) (w : World) (h : Sl elStp w S v xs) (hlen : xs.length ≤ 1000000) : Calls Try.prog 161 #[v] w (Cloned S xs w) := by
  obtain ⟨A, cap, rfl, hcap, hrow⟩ := h
  cases A with
  | none =>
    have hx : xs = [] := by
      by_cases hne : xs = []
      · exact hne
      · obtain ⟨g, off, hA, -⟩ := hrow hne
        cases hA
    subst hx
    clear hrow
    have heq := Lib.run_eql_slice_nil (P := Try.prog) w 29 27 none 0 cap 0 0 Try.underlying29
    go_enter Try.func161, Try.ntmps161
    go_wp2
    go_ret
    exact ⟨none, 0, rfl, Fr.refl w, fun h => absurd rfl h⟩
  | some a =>
    have hz27 : (Value.agg #[(.int .i8 0), (.int .i64 0), (.int .i64 0), (.int .i64 0), (.string ⟨#[]⟩), (.int .i64 0), (.int .i64 0), (.string ⟨#[]⟩), (.slice none 0 0)]).cells.size = elStp.size := rfl
    have hF1 : Fr w (w.alloc (.cells #[] 27)) := Fr.new w _
    obtain ⟨v3, w3, hrun3, hF3, hH3, hMM⟩ := run_append_full (P := Try.prog) elStp (w.alloc (.cells #[] 27)) 29 29 27 _ 104 Try.underlying29 info27 hz27 (g := w.heap.size) (off := 0) (xs := []) (ys := xs) ⟨_, _, rfl, Nat.le_refl _, Row.nil _ _ _ _⟩ ⟨_, _, rfl, hcap, hrow.keep (S := S) hF1.keeps.all hF1.size⟩ (by simp; unfold maxLen; omega) (by simp; omega)
    have HR := Lib.hid hrun3
    have HF := Lib.hid (hF1.trans hF3)
    have HH : Hid (∃ A cap, v3 = .slice A xs.length cap ∧ (xs ≠ [] → Made elStp w3 w.heap.size 27 S v3 xs)) := by
      refine Lib.hid ?_
      obtain ⟨A', cap', rfl, -⟩ := hH3.fin
      refine ⟨A', cap', by simp, fun hne => ?_⟩
      have := ((hMM hne).mono (T' := S) fun k hk _ => hk.1).rebase (base' := w.heap.size) (by simp)
      simpa using this
    clear hF1 hF3 hH3 hMM hz27 hrun3 hrow
    have heq := Lib.run_eql_slice_nil (P := Try.prog) w 29 27 (some a) xs.length cap 0 0 Try.underlying29
    go_enter Try.func161, Try.ntmps161
    go_wp2_with (at_builtin; go_must (refine Go.Lib.wpList_append_run _ rfl (.tmp 5) (.tmp 6) 29 29 rfl _ _ rfl rfl _ _ HR.out ?_))
    go_ret
    obtain ⟨A', cap', rfl, hM⟩ := HH.out
    exact ⟨A', cap', rfl, HF.out, hM⟩
end Go.Proofs.Ytbhmpbaembmlnaa
