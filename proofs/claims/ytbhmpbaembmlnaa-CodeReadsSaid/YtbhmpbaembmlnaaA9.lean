/- The rules of layer 12: normal.rules and its functions, normal.Pair. -/
import Derived.Test.YtbhmpbaembmlnaaA8
import Derived.Test.YtbhmpbaembmlnaaR0
set_option linter.unusedVariables false
namespace Go.Proofs.Ytbhmpbaembmlnaa
open Go.RowKit

theorem info27 : (Try.prog.info? 27).map (fun i => (i.zero, i.size, i.bytes)) = some (some (.agg #[(.int .i8 0), (.int .i64 0), (.int .i64 0), (.int .i64 0), (.string ⟨#[]⟩), (.int .i64 0), (.int .i64 0), (.string ⟨#[]⟩), (.slice none 0 0)]), 9, 104) := by kernel_rfl

abbrev stpCells (s : Stp) (A : Option Addr) (cap : Nat) : List Value := [.int .i8 s.op, .int .i64 s.id, .int .i64 s.parent, .int .i64 s.place, .string s.text, .int .i64 s.sub.id, .int .i64 s.sub.kind, .string s.sub.text, .slice A s.sub.kids.length cap]

theorem cell_alloc {w : World} {g : Nat} (h : g < w.heap.size) (o : Obj) (j : Nat) : (w.alloc o).cell? ⟨g, j, none⟩ = w.cell? ⟨g, j, none⟩ := World.cell?_alloc_past o g j h

/-- One step in new memory. -/
theorem one_slice {w : World} {S S' : Nat → Prop} {s : Stp} {cs : List Value} (h : RStp w S s cs) (hS : ∀ k, S k → k < w.heap.size → S' k) (hw : S' w.heap.size) : Sl elStp (w.alloc (.cells cs.toArray 27)) S' (.slice (some ⟨w.heap.size, 0, none⟩) 1 1) [s] := by
  refine ⟨_, _, rfl, Nat.le_refl _, fun _ => ⟨w.heap.size, 0, rfl, hw, by simp, fun j x hx => ?_⟩⟩
  have : j = 0 := by have := get_lt hx; simp at this; omega
  subst this
  simp at hx
  subst hx
  refine ⟨cs, fun i u hu => ?_, RStp.keep (h.mono hS) (Fr.new w _).keeps.all⟩
  have := (Blk.new w cs 27).cell i
  rw [hu] at this
  simpa using this

def Ruled (r : Option (List Stp)) (w : World) (e : Ending) (w' : World) : Prop :=
  ∃ v b, e = .returned (.tuple #[v, .bool b]) ∧ Fr w w' ∧ match r with
    | none => b = false
    | some l => b = true ∧ Sl elStp w' (fun k => w.heap.size ≤ k) v l

/-- Two steps of one operation on one node: the second. -/
def rule1 (op : Int) (a b : Stp) : Option (List Stp) := if a.op = op ∧ b.op = op ∧ a.id = b.id then some [b] else none

set_option maxRecDepth 100000 in
set_option maxHeartbeats 2000000 in
theorem r154 (op : Int) (a b : Stp) (ca cb : List Value) (g : Nat) (w : World) (ha : RP w a ca) (hb : RP w b cb) (hg : w.cell? ⟨g, 0, none⟩ = some (.int .i8 op)) :
    Calls Try.prog 154 #[.agg ca.toArray, .agg cb.toArray, .pointer (some ⟨g, 0, none⟩)] w (Ruled (rule1 op a b) w) := by
  obtain ⟨A, cap, rfl, has⟩ := ha.open
  obtain ⟨B, capB, rfl, hbs⟩ := hb.open
  have hgl := cell_lt hg
  have hgl : g < w.heap.size := hgl
  have hg1 : g < w.heap.size + 1 := by omega
  obtain ⟨Hr, hcase⟩ : Hid (rule1 op a b = if (a.op == op && (b.op == op && a.id == b.id)) then some [b] else none) ∧ ((a.op == op) = false ∨ (a.op == op) = true ∧ (b.op == op) = false ∨ (a.op == op) = true ∧ (b.op == op) = true ∧ (a.id == b.id) = false ∨ (a.op == op) = true ∧ (b.op == op) = true ∧ (a.id == b.id) = true) := by
    refine ⟨Lib.hid (by simp [rule1]), ?_⟩
    cases (a.op == op) <;> cases (b.op == op) <;> cases (a.id == b.id) <;> simp
  rcases hcase with e1 | ⟨e1, e2⟩ | ⟨e1, e2, e3⟩ | ⟨e1, e2, e3⟩
  all_goals
    go_enter Try.func154, Try.ntmps154
    go_wp2_with fail
    refine wp_region_plan [(true, 0), (true, 3), (true, 4), (true, 5), (true, 6), (false, 1), (true, 7), (true, 8), (true, 9), (true, 10), (true, 11), (true, 12), (true, 13), (true, 14), (true, 15), (true, 16), (true, 17), (true, 18), (true, 19), (false, 2), (true, 20), (true, 21)] (Fr ((w.alloc (.cells (stpCells a A cap).toArray 27)).alloc (.cells (stpCells b B capB).toArray 27))) (by kernel_rfl) (by kernel_rfl) (by kernel_rfl) (by kernel_rfl) (fun _ _ d _ _ h => by cases d <;> exact h) ((Fr.refl _).drewN 1) ?_
    simp only [planOps, List.getElem?_toArray, List.getElem?_cons_zero, List.getElem?_cons_succ]
    repeat (first
      | (refine wpSeqH_skip rfl ?_; simp only [Act.put, List.setIfInBounds_toArray, List.set_cons_zero, List.set_cons_succ])
      | (refine wpSeqH_take (v := ?_) rfl (fun w' hw' => ?_) ?_; rotate_left; (obtain ⟨r1, r2⟩ := Fr.rules hw'; go_simp; with_reducible rfl); simp only [Act.put, List.setIfInBounds_toArray, List.set_cons_zero, List.set_cons_succ]))
    refine wpSeqH_run rfl (fun K hK => ?_)
    go_wp2_with fail
    refine (nCopied b _ _ (hb.later (((Fr.new w _).alloc _).drewN 1))).mono ?_
    rintro e w1 ⟨cs', rfl, hO, hbw⟩
    obtain ⟨B', cap2, rfl, -⟩ := hO.reads.open
    have hbw' := ((Fr.refl _).drewN 1).trans hbw
    go_wp2_with fail
    refine hK.out _ _ hbw' ?_
    clear hK K
    repeat (first
      | (refine wpSeqH_skip rfl ?_; simp only [Act.put, List.setIfInBounds_toArray, List.set_cons_zero, List.set_cons_succ])
      | (refine wpSeqH_take (v := ?_) rfl (fun w' hw' => ?_) ?_; rotate_left; (obtain ⟨r1, r2⟩ := Fr.rules hw'; go_simp; with_reducible rfl); simp only [Act.put, List.setIfInBounds_toArray, List.set_cons_zero, List.set_cons_succ]))
    refine wpSeqH_run rfl (fun K hK => ?_)
    go_wp2_with fail
    refine hK.out _ _ (hbw'.alloc _) ?_
    clear hK K
    repeat (first
      | (refine wpSeqH_skip rfl ?_; simp only [Act.put, List.setIfInBounds_toArray, List.set_cons_zero, List.set_cons_succ])
      | (refine wpSeqH_take (v := ?_) rfl (fun w' hw' => ?_) ?_; rotate_left; (obtain ⟨r1, r2⟩ := Fr.rules hw'; go_simp; with_reducible rfl); simp only [Act.put, List.setIfInBounds_toArray, List.set_cons_zero, List.set_cons_succ]))
    refine wpSeqH_done ?_
    have HF := Lib.hid (((Fr.new w _).alloc _).trans hbw')
    have HO := Lib.hid hO
    go_wp2
    go_ret2
    refine ⟨_, _, rfl, HF.out.alloc _, ?_⟩
    rw [Hr.out]
    first
      | (rw [e1, e2, e3]; exact ⟨rfl, one_slice HO.out.reads (fun k hk _ => by have := hk.1; simp at this; omega) HF.out.size⟩)
      | (rw [e1, e2, e3]; rfl)
      | (rw [e1, e2]; rfl)
      | (rw [e1]; rfl)
end Go.Proofs.Ytbhmpbaembmlnaa
