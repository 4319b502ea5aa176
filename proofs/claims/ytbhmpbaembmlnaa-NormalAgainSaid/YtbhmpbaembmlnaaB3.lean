/- allotmentref12.Pair. -/
import Derived.Test.YtbhmpbaembmlnaaB2
import Derived.Test.YtbhmpbaembmlnaaB1
set_option linter.unusedVariables false
namespace Go.Proofs.Ytbhmpbaembmlnaa
open Go.RowKit

theorem pair_cases (a b : Stp) :
    (pairS a b = some [b] ∧ (a.op == b.op) = true ∧ (a.id == b.id) = true ∧ ((a.op == 4) = true ∨ (a.op == 4) = false ∧ (a.op == 3) = true)) ∨
    (pairS a b = some [] ∧ (a.op == b.op) = false ∧ (a.op == 1) = true ∧ (b.op == 2) = true ∧ (a.sub.id == b.id) = true) ∨
    (pairS a b = (a.sub.withText b.id b.text).map (fun t => [{ a with sub := t }]) ∧ (a.op == b.op) = false ∧ (a.op == 1) = true ∧ (b.op == 2) = false ∧ (b.op == 4) = true) ∨
    (pairS a b = none ∧
      ((a.op == b.op) = false ∧ (a.op == 1) = false ∨
       (a.op == b.op) = false ∧ (a.op == 1) = true ∧ (b.op == 2) = true ∧ (a.sub.id == b.id) = false ∧ (b.op == 4) = false ∨
       (a.op == b.op) = false ∧ (a.op == 1) = true ∧ (b.op == 2) = false ∧ (b.op == 4) = false ∨
       (a.op == b.op) = true ∧ (a.op == 4) = true ∧ (a.id == b.id) = false ∧ (a.op == 1) = false ∨
       (a.op == b.op) = true ∧ (a.op == 4) = false ∧ (a.op == 3) = true ∧ (a.id == b.id) = false ∧ (a.op == 1) = false ∨
       (a.op == b.op) = true ∧ (a.op == 4) = false ∧ (a.op == 3) = false ∧ (a.op == 1) = false ∨
       (a.op == b.op) = true ∧ (a.op == 4) = false ∧ (a.op == 3) = false ∧ (a.op == 1) = true ∧ (b.op == 2) = false ∧ (b.op == 4) = false)) := by
  simp only [beq_iff_eq, beq_eq_false_iff_ne, ne_eq]
  by_cases h1 : a.op = b.op
  · by_cases h2 : a.op = 4
    · have h3 : b.op = 4 := by omega
      by_cases h4 : a.id = b.id <;> simp [h2, h3, h4, pairS, rule1, rule3, rule4]
    · by_cases h3 : a.op = 3
      · have h5 : b.op = 3 := by omega
        by_cases h4 : a.id = b.id <;> simp [h3, h5, h4, pairS, rule1, rule3, rule4]
      · have h4 : b.op ≠ 4 := by omega
        have h5 : b.op ≠ 3 := by omega
        by_cases h6 : a.op = 1
        · have h7 : b.op = 1 := by omega
          simp [h6, h7, pairS, rule1, rule3, rule4]
        · simp [h1, h4, h5, show b.op ≠ 1 by omega, pairS, rule1, rule3, rule4]
  · by_cases h2 : a.op = 1
    · by_cases h3 : b.op = 2
      · by_cases h4 : a.sub.id = b.id <;> simp [h2, h3, h4, pairS, rule1, rule3, rule4]
      · by_cases h4 : b.op = 4
        · simp [h2, h4, pairS, rule1, rule3, rule4]
        · have h5 : ¬ (1 : Int) = b.op := by omega
          simp [h2, h3, h4, h5, pairS, rule1, rule3, rule4]
    · have h3 : ¬ (a.op = 4 ∧ b.op = 4 ∧ a.id = b.id) := by omega
      have h4 : ¬ (a.op = 3 ∧ b.op = 3 ∧ a.id = b.id) := by omega
      simp [h1, h2, h3, h4, pairS, rule1, rule3, rule4]

set_option maxRecDepth 100000 in
set_option maxHeartbeats 0 in
theorem rPair (a b : Stp) (ca cb : List Value) (w : World) (ha : RP w a ca) (hb : RP w b cb) :
    Calls Try.prog 21 #[.agg ca.toArray, .agg cb.toArray] w (Paired (pairS a b) w) := by
  have hbw := hb.wfs
  have haw := ha.wfs
  obtain ⟨A, cap, rfl, has⟩ := ha.open
  obtain ⟨B, capB, rfl, hbs⟩ := hb.open
  have hF0 : Fr w ((w.alloc (.cells (stpCells a A cap).toArray 27)).alloc (.cells (stpCells b B capB).toArray 27)) := (Fr.new w _).alloc _
  rcases pair_cases a b with ⟨hp, hc⟩ | ⟨hp, e1, e2, e3, e4⟩ | ⟨hp, e1, e2, e3, e4⟩ | ⟨hp, hc⟩
  · have Hp := Lib.hid hp; clear hp
    rcases hc with ⟨e1, e2, e3 | ⟨e3, e4⟩⟩
    all_goals
      go_enter Try.func21, Try.ntmps21
      go_wp2_with fail
      refine (rCopied b _ _ (hb.later hF0)).mono ?_
      rintro e w1 ⟨cs', rfl, hO, hbw⟩
      obtain ⟨B', cap2, rfl, -⟩ := hO.reads.open
      have HO := Lib.hid hO; clear hO
      have HF := Lib.hid (hF0.trans hbw); clear hF0
      go_wp2
      go_ret2
      unfold Paired
      rw [Hp.out]
      exact ⟨_, rfl, one_slice HO.out.reads (fun k hk _ => by have := hk.1; simp at this; omega) HF.out.size, HF.out.alloc _⟩
  · have Hp := Lib.hid hp; clear hp
    have HF := Lib.hid hF0; clear hF0
    go_enter Try.func21, Try.ntmps21
    go_wp2
    go_ret2
    unfold Paired
    rw [Hp.out]
    exact ⟨_, rfl, ⟨none, 0, rfl, Nat.le_refl _, Row.nil _ _ _ _⟩, HF.out⟩
  · have Hp := Lib.hid hp; clear hp
    go_enter Try.func21, Try.ntmps21
    go_wp2_with fail
    refine (rWith b.id b.text hbw.2.2.2.2 _ a.sub _ _ (Nat.le_refl _) (has.later hF0).here).mono ?_
    rintro e w1 ⟨cs', bb, rfl, hf, rfl, hm⟩
    have HF := Lib.hid (hF0.trans hf)
    have b0 := ((Blk.new w (stpCells a A cap) 27).alloc (.cells (stpCells b B capB).toArray 27)).later hf
    clear hF0
    obtain ⟨f0, f1⟩ := b0.rules
    have hz := b0.lt
    cases hx : a.sub.withText b.id b.text with
    | none =>
      rw [hx] at hm Hp
      obtain ⟨C, cap3, rfl, -⟩ := hm.open
      clear hx hm
      go_wp2
      go_ret2
      unfold Paired
      rw [Hp.out]
      exact ⟨rfl, HF.out.alloc _⟩
    | some y =>
      rw [hx] at hm Hp
      obtain ⟨C, cap3, rfl, -⟩ := RN.open hm
      have Hm := Lib.hid hm
      clear hx hm
      go_wp2_with fail
      have hf1 : Fr w1 (w1.alloc (.cells #[.int .i64 y.id, .int .i64 y.kind, .string y.text, .slice C y.kids.length cap3] 25)) := Fr.new w1 _
      refine (rCopied a _ _ (ha.later (HF.out.trans hf1))).mono ?_
      rintro e w2 ⟨ck, rfl, hO, hf2⟩
      obtain ⟨B', cap2, rfl, -⟩ := hO.reads.open
      have b1 := (Blk.new w1 [.int .i64 y.id, .int .i64 y.kind, .string y.text, .slice C y.kids.length cap3] 25).later hf2
      obtain ⟨g0, g1⟩ := b1.rules
      have hz1 := b1.lt
      have hRP : RStp w2 (fun k => w.heap.size ≤ k) { a with sub := y } (stpCells { a with sub := y } C cap3) := ⟨_, rfl, (Hm.out.mono fun k hk _ => by simp at hk; omega).keep (hf1.trans hf2).keeps.all, haw⟩
      have HR := Lib.hid hRP
      have HF2 := Lib.hid (HF.out.trans (hf1.trans hf2))
      clear hO hRP hf1
      go_wp2
      go_ret2
      unfold Paired
      rw [Hp.out]
      have h1 := one_slice (S' := fun k => w.heap.size ≤ k) (RStp.keep HR.out (Fr.new w2 (.cells (stpCells { a with sub := y } C cap3).toArray 27)).keeps.all) (fun k hk _ => hk) (HF2.out.alloc _).size
      rw [World.size_alloc] at h1
      exact ⟨_, rfl, h1, (HF2.out.alloc _).alloc _⟩
  · have Hp := Lib.hid hp; clear hp
    have HF := Lib.hid hF0; clear hF0
    rcases hc with ⟨e1, e2⟩ | ⟨e1, e2, e3, e4, e5⟩ | ⟨e1, e2, e3, e4⟩ | ⟨e1, e2, e3, e4⟩ | ⟨e1, e2, e3, e4, e5⟩ | ⟨e1, e2, e3, e4⟩ | ⟨e1, e2, e3, e4, e5, e6⟩
    all_goals
      go_enter Try.func21, Try.ntmps21
      go_wp2
      go_ret2
      unfold Paired
      rw [Hp.out]
      exact ⟨rfl, HF.out⟩
end Go.Proofs.Ytbhmpbaembmlnaa
