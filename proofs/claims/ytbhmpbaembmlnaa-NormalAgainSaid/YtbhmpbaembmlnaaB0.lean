/- The rules of layer 12: normal.rules$2, rules$3. -/
import Derived.Test.YtbhmpbaembmlnaaA9
set_option linter.unusedVariables false
namespace Go.Proofs.Ytbhmpbaembmlnaa
open Go.RowKit

/-- A node that is put in and taken out again: nothing. -/
def rule3 (a b : Stp) : Option (List Stp) := if a.op = 1 ∧ b.op = 2 ∧ a.sub.id = b.id then some [] else none

set_option maxRecDepth 100000 in
set_option maxHeartbeats 2000000 in
theorem r156 (a b : Stp) (ca cb : List Value) (w : World) (ha : RP w a ca) (hb : RP w b cb) :
    Calls Try.prog 156 #[.agg ca.toArray, .agg cb.toArray] w (Ruled (rule3 a b) w) := by
  obtain ⟨A, cap, rfl, has⟩ := ha.open
  obtain ⟨B, capB, rfl, hbs⟩ := hb.open
  obtain ⟨Hr, hcase⟩ : Hid (rule3 a b = if (a.op == 1 && (b.op == 2 && a.sub.id == b.id)) then some [] else none) ∧ ((a.op == 1) = false ∨ (a.op == 1) = true ∧ (b.op == 2) = false ∨ (a.op == 1) = true ∧ (b.op == 2) = true ∧ (a.sub.id == b.id) = false ∨ (a.op == 1) = true ∧ (b.op == 2) = true ∧ (a.sub.id == b.id) = true) := by
    refine ⟨Lib.hid (by simp [rule3]), ?_⟩
    cases (a.op == 1) <;> cases (b.op == 2) <;> cases (a.sub.id == b.id) <;> simp
  rcases hcase with e1 | ⟨e1, e2⟩ | ⟨e1, e2, e3⟩ | ⟨e1, e2, e3⟩
  all_goals
    go_enter Try.func156, Try.ntmps156
    go_wp2_with fail
    refine wp_region_plan [(true, 0), (true, 1), (true, 2), (true, 3), (true, 4), (true, 5), (true, 6), (true, 7), (true, 8), (true, 9), (true, 10), (true, 11), (true, 12), (true, 13), (true, 14), (true, 15), (true, 16), (true, 17)] (Fr ((w.alloc (.cells (stpCells a A cap).toArray 27)).alloc (.cells (stpCells b B capB).toArray 27))) (by kernel_rfl) (by kernel_rfl) (by kernel_rfl) (by kernel_rfl) (fun _ _ d _ _ h => by cases d <;> exact h) ((Fr.refl _).drewN 1) ?_
    simp only [planOps, List.getElem?_toArray, List.getElem?_cons_zero, List.getElem?_cons_succ]
    repeat (first
      | (refine wpSeqH_skip rfl ?_; simp only [Act.put, List.setIfInBounds_toArray, List.set_cons_zero, List.set_cons_succ])
      | (refine wpSeqH_take (v := ?_) rfl (fun w' hw' => ?_) ?_; rotate_left; (obtain ⟨r1, r2⟩ := Fr.rules hw'; go_simp; with_reducible rfl); simp only [Act.put, List.setIfInBounds_toArray, List.set_cons_zero, List.set_cons_succ]))
    refine wpSeqH_done ?_
    go_wp2
    go_ret2
    refine ⟨_, _, rfl, ((Fr.new w _).alloc _).drewN 1, ?_⟩
    rw [Hr.out]
    first
      | (rw [e1, e2, e3]; exact ⟨rfl, none, 0, rfl, Nat.le_refl _, Row.nil _ _ _ _⟩)
      | (rw [e1, e2, e3]; rfl)
      | (rw [e1, e2]; rfl)
      | (rw [e1]; rfl)

/-- A node that is put in, with another text. -/
def rule4 (a b : Stp) : Option (List Stp) := if a.op = 1 ∧ b.op = 4 then (a.sub.withText b.id b.text).map fun t => [{ a with sub := t }] else none

set_option maxRecDepth 100000 in
set_option maxHeartbeats 2000000 in
theorem r157 (a b : Stp) (ca cb : List Value) (w : World) (ha : RP w a ca) (hb : RP w b cb) :
    Calls Try.prog 157 #[.agg ca.toArray, .agg cb.toArray] w (Ruled (rule4 a b) w) := by
  have hbw := hb.wfs
  obtain ⟨A, cap, rfl, has⟩ := ha.open
  obtain ⟨B, capB, rfl, hbs⟩ := hb.open
  go_enter Try.func157, Try.ntmps157
  go_wp2_with fail
  refine (nCopied a _ _ (ha.later ((Fr.new w _).alloc _))).mono ?_
  rintro e w1 ⟨cs', rfl, hO, hf⟩
  have hO' := hO
  obtain ⟨sub, rfl, hsub, hwf⟩ := hO'
  obtain ⟨B', cap2, rfl, -⟩ := hsub.reads.open
  obtain ⟨f0, f1⟩ := (((Blk.new w (stpCells a A cap) 27).alloc (.cells (stpCells b B capB).toArray 27)).later hf).rules
  obtain ⟨f2, f3⟩ := ((Blk.new (w.alloc (.cells (stpCells a A cap).toArray 27)) (stpCells b B capB) 27).later hf).rules
  simp only [World.size_alloc] at f2 f3
  have hz := hf.size
  simp at hz
  have hz0 : w.heap.size < w1.heap.size := by omega
  have hz1 : w.heap.size + 1 < w1.heap.size := by omega
  have hF : Fr w w1 := ((Fr.new w _).alloc _).trans hf
  obtain ⟨Hr, hcase⟩ : Hid (rule4 a b = if (a.op == 1 && b.op == 4) then (a.sub.withText b.id b.text).map fun t => [{ a with sub := t }] else none) ∧ ((a.op == 1) = false ∨ (a.op == 1) = true ∧ (b.op == 4) = false ∨ (a.op == 1) = true ∧ (b.op == 4) = true) := by
    refine ⟨Lib.hid (by simp [rule4]), ?_⟩
    cases (a.op == 1) <;> cases (b.op == 4) <;> simp
  rcases hcase with e1 | ⟨e1, e2⟩ | ⟨e1, e2⟩
  · have HO := Lib.hid hO; clear hO hwf hsub
    go_wp2
    go_ret2
    refine ⟨_, _, rfl, (hF.alloc _).alloc _, ?_⟩
    rw [Hr.out, e1]; rfl
  · have HO := Lib.hid hO; clear hO hwf hsub
    go_wp2
    go_ret2
    refine ⟨_, _, rfl, (hF.alloc _).alloc _, ?_⟩
    rw [Hr.out, e1, e2]; rfl
  · have hx := Blk.new w1 (stpCells a B' cap2) 27
    have HO := Lib.hid hsub; clear hsub
    have hc : CellsAt (w1.alloc (.cells (stpCells a B' cap2).toArray 27)) w1.heap.size 5 [.int .i64 a.sub.id, .int .i64 a.sub.kind, .string a.sub.text, .slice B' a.sub.kids.length cap2] := by
      intro i u hu
      rw [hx.cell (5 + i)]
      match i, hu with
      | 0, hu => exact hu
      | 1, hu => exact hu
      | 2, hu => exact hu
      | 3, hu => exact hu
    have ht := texted b.id b.text hbw.2.2.2.2 _ a.sub _ w1.heap.size 5 _ (w1.alloc (.cells (stpCells a B' cap2).toArray 27)) (Nat.le_refl _) (HO.out.keep (Fr.new w1 _).keeps.all) hc (hx.frozen 7) (by simp)
    have HT := Lib.hid ht; clear ht hc
    have Hx := Lib.hid hx; clear hx
    clear hO
    go_wp2_with fail
    refine HT.out.mono ?_
    intro e w2 hT
    unfold Texted at hT
    cases hw : a.sub.withText b.id b.text with
    | none =>
      simp only [hw] at hT
      obtain ⟨rfl, rfl⟩ := hT
      have Hw := Lib.hid hw; clear hw
      go_wp2
      go_ret2
      refine ⟨_, _, rfl, (hF.alloc _).alloc _, ?_⟩
      rw [Hr.out, e1, e2, Hw.out]; rfl
    | some y =>
      simp only [hw] at hT
      obtain ⟨rfl, ad, rfl, hcase⟩ := hT
      have Hw := Lib.hid hw; clear hw
      have hz2 : w.heap.size ≤ w1.heap.size := hF.size
      obtain ⟨sub', hsub', hblk, hF2⟩ : ∃ sub', OwnT ((w1.alloc (.cells (stpCells a B' cap2).toArray 27)).setCell ad (.string b.text)) (fun k => w.heap.size ≤ k) y sub' ∧
          Blk ((w1.alloc (.cells (stpCells a B' cap2).toArray 27)).setCell ad (.string b.text)) w1.heap.size ([.int .i8 a.op, .int .i64 a.id, .int .i64 a.parent, .int .i64 a.place, .string a.text] ++ sub') 27 ∧
          Fr w ((w1.alloc (.cells (stpCells a B' cap2).toArray 27)).setCell ad (.string b.text)) := by
        rcases hcase with ⟨rfl, h⟩ | ⟨h1, h⟩
        · exact ⟨_, h.mono (fun k hk => by simp at hk; omega), Hx.out.set 7 _, (hF.alloc _).set hz2 _ _⟩
        · simp at h1
          refine ⟨_, h.mono (fun k hk => by simp at hk; omega), ?_, ?_⟩
          · unfold Blk
            rw [Below.heap_setCell _ _ _ _ (by omega)]
            exact Hx.out
          · exact Below.setCell (hF.alloc _) (p := ad) (by omega) _
      have Hs := Lib.hid hsub'
      obtain ⟨C, cap3, rfl, -⟩ := hsub'.reads.open
      have hwf' : ∃ sb, [Value.int .i8 a.op, .int .i64 a.id, .int .i64 a.parent, .int .i64 a.place, .string a.text] ++ [.int .i64 y.id, .int .i64 y.kind, .string y.text, .slice C y.kids.length cap3] = sb := ⟨_, rfl⟩
      have hRP : RStp ((w1.alloc (.cells (stpCells a B' cap2).toArray 27)).setCell ad (.string b.text)) (fun k => w.heap.size ≤ k) { a with sub := y } (stpCells { a with sub := y } C cap3) := ⟨_, rfl, Hs.out.reads, hwf⟩
      have hb' : Blk ((w1.alloc (.cells (stpCells a B' cap2).toArray 27)).setCell ad (.string b.text)) w1.heap.size (stpCells { a with sub := y } C cap3) 27 := hblk
      clear hcase hsub' hblk HT
      generalize (w1.alloc (.cells (stpCells a B' cap2).toArray 27)).setCell ad (.string b.text) = w2 at *
      obtain ⟨f4, f5⟩ := hb'.rules
      go_wp2
      go_ret2
      refine ⟨_, _, rfl, hF2.alloc _, ?_⟩
      rw [Hr.out, e1, e2, Hw.out]
      exact ⟨rfl, one_slice hRP (fun k hk _ => hk) hF2.size⟩
end Go.Proofs.Ytbhmpbaembmlnaa
