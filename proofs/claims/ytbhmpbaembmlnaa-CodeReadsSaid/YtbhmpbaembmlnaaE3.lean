/- code.ask at the plain kinds. -/
import Derived.Test.YtbhmpbaembmlnaaE2
import Derived.Laws.Pointers
set_option linter.unusedVariables false
namespace Go.Proofs.Ytbhmpbaembmlnaa
open Go.RowKit

/-- A reader, wherever it is. -/
def PubAt (w : World) (p B : Nat) (bs : List Int) : Rs → Prop
  | .ok a => RdAt w p B bs a (-1)
  | .error b => b ≤ bs.length ∧ ∃ a, RdAt w p B bs a b
theorem PubAt.keep {w w' : World} {p B : Nat} {bs : List Int} {st : Rs} (h : PubAt w p B bs st) (hk : Fr w w') : PubAt w' p B bs st := by
  cases st with
  | ok a => exact RdAt.keep h hk
  | error b => exact ⟨h.1, h.2.elim fun a ha => ⟨a, ha.keep hk⟩⟩

set_option maxRecDepth 100000 in
set_option maxHeartbeats 1000000 in
theorem ask162_idle (r v : Addr) (w : World) :
    CallsD Try.prog 162 #[.pointer (some r), .pointer (some v)] .returning w fun e u' w' => e = .returned (.tuple #[]) ∧ u' = .returning ∧ w' = w := by
  refine callsD_of_wpS Try.func162 rfl fun c₀ cs hu => ?_
  apply wpS_seq
  apply wpS_region
  simp [wpOpsS, go_sem, recoverD, hu, Try.ntmps162, Exit.thenS]
  apply wpS_seq
  apply wpS_region
  simp [wpOpsS, go_sem, Exit.thenS]
  refine wpS_cond (t := false) (by simp [Act.eval, Array.replicate]) ?_
  simp only [Bool.false_eq_true, if_false]
  refine wpS_of_wp (wp_skip ?_)
  cases c₀
  simp_all [bodyPostS, results, Try.results162]

set_option maxRecDepth 100000 in
set_option maxHeartbeats 1000000 in
theorem ask162_panicking (g p v b : Nat) (x : Value) (cs0 : List Value) (w : World) (hg : w.cell? ⟨g, 0, none⟩ = some (.pointer (some ⟨p, 0, none⟩))) (hv : Blk w v [x] 3) (hp : Blk w p cs0 119) (h3 : cs0.length = 3) (hne : v ≠ p) :
    CallsD Try.prog 162 #[.pointer (some ⟨g, 0, none⟩), .pointer (some ⟨v, 0, none⟩)] (.panicking [failed b]) w fun e u' w' => e = .returned (.tuple #[]) ∧ u' = .panicking [{ failed b with recovered := true }] ∧ w' = ((w.setCell ⟨p, 2, none⟩ (.int .i64 b)).setCell ⟨v, 0, none⟩ (.int .i64 0)).alloc (.cells #[.int .i64 b] 186) := by
  obtain ⟨f0, f1⟩ := hp.rules
  obtain ⟨f2, f3⟩ := hv.rules
  obtain ⟨c0, c1, c2, rfl⟩ : ∃ c0 c1 c2, cs0 = [c0, c1, c2] := by
    match cs0, h3 with
    | [c0, c1, c2], _ => exact ⟨_, _, _, rfl⟩
  have hgl : g < w.heap.size := cell_lt hg
  have hpl := hp.lt
  have hvl := hv.lt
  have hne' : p ≠ v := fun e => hne e.symm
  have hta : ∀ (n : Int) (w : World), (Instr.typeAssert (.iface 186 (.agg #[.int .i64 n])) 20 186 true).run Try.prog w = .ok (.tuple #[.agg #[.int .i64 n], .bool true]) w := fun _ _ => by kernel_rfl
  refine callsD_of_wpS Try.func162 rfl fun c₀ cs hu => ?_
  simp only [Try.ntmps162, List.size_toArray, List.length_cons, List.length_nil, Nat.reduceAdd, Nat.reduceSub, Array.replicate_succ, Array.replicate_zero, List.push_toArray, List.append_toArray, List.nil_append, List.cons_append]
  apply wpS_seq
  apply wpS_region
  simp [wpOpsS, go_sem, recoverD, hu, failed, Exit.thenS, Act.put]
  apply wpS_seq
  apply wpS_region
  simp [wpOpsS, go_sem, Exit.thenS, Act.put]
  refine wpS_cond (t := true) rfl ?_
  simp only [if_true]
  refine wpS_of_wp ?_
  generalize hQ : (fun e a' w' => bodyPostS _ _ _ _ _ e a' _ w') = Q
  have HQ := Lib.hid hQ
  clear hQ hu
  go_wp2
  rw [← HQ.out]
  exact ⟨rfl, _, rfl, _, by simp [results, Try.results162], rfl, rfl, rfl⟩

set_option maxRecDepth 100000 in
set_option maxHeartbeats 1000000 in
theorem ask99 (p B : Nat) (bs : List Int) (f : Nat → Except Nat (Int × Nat)) (k : FuncId) (first cap : Array Value) (st : Rs) (w : World) (h : PubAt w p B bs st)
    (hk : ∀ w, (callFunc k (first ++ cap)).run Try.prog w = .ok (.enter k (first ++ cap)) w)
    (hc : ∀ a w1, st = .ok a → RdAt w1 p B bs a (-1) → Fr w w1 → Calls Try.prog k (first ++ cap) w1 (Reads p B bs (f a) (fun _ v x => v = .int .i64 x ∧ (Lit.int .i64 x).wf = true) w1)) :
    Calls Try.prog 99 #[.pointer (some ⟨p, 0, none⟩), .func (.func k) first cap] w fun e w' =>
      ∃ x, x = (asked f 0 st).1 ∧ e = .returned (.int .i64 x) ∧ ((Lit.int .i64 x).wf = true) ∧ PubAt w' p B bs (asked f 0 st).2 ∧ Trn (· = p) w w' := by
  cases st with
  | error b =>
    have HP := Lib.hid h
    obtain ⟨hbl, a, h⟩ := h
    obtain ⟨A, cp, hb, hcap, hrow, h1, h2, hpB, hBz⟩ := h
    obtain ⟨f0, f1⟩ := hb.rules
    have hz := hb.lt
    clear hrow hk hc
    go_enter_defers Try.func99, Try.ntmps99
    go_wp2
    refine ⟨.int .i64 0, by simp [results, Try.results99, go_sem], 0, rfl, rfl, (by decide), ?_, ?_⟩
    · exact HP.out.keep ((Fr.new w _).alloc _)
    · exact Trn.of_fr ((Fr.new w _).alloc _)
  | ok a =>
    have h0 := h
    obtain ⟨A, cp, hb, hcap, hrow, h1, h2, hpB, hBz⟩ := h0
    obtain ⟨f0, f1⟩ := hb.rules
    have hz := hb.lt
    have hmf : ∀ (fn : Fn) (first cap : Array Value) (w : World), (Instr.makeFunc fn first cap).run Try.prog w = .ok (.func fn first cap) w := fun _ _ _ _ => rfl
    have HH := Lib.hid h
    have HC := Lib.hid hc
    clear h hc hrow
    go_enter_defers Try.func99, Try.ntmps99
    go_wp2_with fail
    have hF : Fr w ((w.alloc (.cells #[.pointer (some ⟨p, 0, none⟩)] 38)).alloc (.cells #[(.int .i64 0)] 3)) := (Fr.new w _).alloc _
    have b0 := (Blk.new w [.pointer (some ⟨p, 0, none⟩)] 38).alloc (.cells #[(.int .i64 0)] 3)
    have b1 := Blk.new (w.alloc (.cells #[.pointer (some ⟨p, 0, none⟩)] 38)) [(.int .i64 0)] 3
    rw [World.size_alloc] at b1
    have hA := HH.out.keep hF
    refine (HC.out a _ rfl hA hF).mono ?_
    rintro e w1 ⟨hT0, hr⟩
    have hT := hT0.t
    have hpl := hA.lt
    have hne0 : w.heap.size ≠ p := by omega
    have hne1 : w.heap.size + 1 ≠ p := by omega
    have hT2 : Trn (· = p) w w1 := (Trn.of_fr hF).trans hT
    have b0' := b0.trn hT hne0
    have b1' := b1.trn hT hne1
    obtain ⟨q0, q1⟩ := b0'.rules
    obtain ⟨q2, q3⟩ := b1'.rules
    have hz1 := b1'.lt
    clear f0 f1
    cases hfa : f a with
    | error b =>
      rw [hfa] at hr
      obtain ⟨at', rfl, h', hbl⟩ := hr
      have h0 := h'
      obtain ⟨A', cp', hb', -⟩ := h0
      refine leaves_cons (f := 162) (args := #[.pointer (some ⟨w.heap.size, 0, none⟩), .pointer (some ⟨w.heap.size + 1, 0, none⟩)]) (by simp) (by simp [go_sem]) ?_
      refine (ask162_panicking w.heap.size p (w.heap.size + 1) b _ _ w1 (by simpa using q0 0) b1' hb' rfl hne1).mono ?_
      rintro e u' w'' ⟨rfl, rfl, rfl⟩
      have hB := h'.low
      have hF2 : RdAt (((w1.setCell ⟨p, 2, none⟩ (.int .i64 b)).setCell ⟨w.heap.size + 1, 0, none⟩ (.int .i64 0)).alloc (.cells #[.int .i64 b] 186)) p B bs at' b := ((h'.set2 (bad' := b)).setFar (by omega) 0 _).keep (Fr.new _ _)
      have b2 : Blk (((w1.setCell ⟨p, 2, none⟩ (.int .i64 b)).setCell ⟨w.heap.size + 1, 0, none⟩ (.int .i64 0)).alloc (.cells #[.int .i64 b] 186)) (w.heap.size + 1) [(.int .i64 0)] 3 := ((b1'.far hne1 2 _).set 0 _).alloc _
      have c2 := b2.rules.1 0
      simp only [List.getElem?_cons_zero] at c2
      simp only [Leaves, settle, List.dropWhile_nil]
      refine ⟨.int .i64 0, by simp [results, Try.results99, go_sem, c2], 0, by simp [asked, hfa], rfl, (by decide), ?_, ?_⟩
      · simp only [asked, hfa]
        exact ⟨hbl, _, hF2⟩
      · exact ((hT2.setp _ _).set (.inr (by omega)) _ _).alloc _
    | ok r =>
      obtain ⟨x, a'⟩ := r
      rw [hfa] at hr
      obtain ⟨v, rfl, ⟨rfl, hwf⟩, h'⟩ := hr
      have H' := Lib.hid h'
      clear h'
      go_wp2
      refine leaves_cons (f := 162) (args := #[.pointer (some ⟨w.heap.size, 0, none⟩), .pointer (some ⟨w.heap.size + 1, 0, none⟩)]) (by simp) (by simp [go_sem]) ?_
      refine (ask162_idle _ _ _).mono ?_
      rintro e u' w'' ⟨rfl, rfl, rfl⟩
      have hB := H'.out.low
      have b2 := b1'.set 0 (.int .i64 x)
      have c2 := b2.rules.1 0
      simp only [List.set_cons_zero, List.getElem?_cons_zero] at c2
      simp only [Leaves, settle]
      refine ⟨.int .i64 x, by simp [results, Try.results99, go_sem, c2], x, by simp [asked, hfa], rfl, hwf, ?_, ?_⟩
      · simp only [asked, hfa]
        exact H'.out.setFar (by omega) 0 _
      · exact hT2.set (.inr (by omega)) _ _

set_option maxRecDepth 100000 in
set_option maxHeartbeats 1000000 in
theorem ask164_idle (r v : Addr) (w : World) :
    CallsD Try.prog 164 #[.pointer (some r), .pointer (some v)] .returning w fun e u' w' => e = .returned (.tuple #[]) ∧ u' = .returning ∧ w' = w := by
  refine callsD_of_wpS Try.func164 rfl fun c₀ cs hu => ?_
  apply wpS_seq
  apply wpS_region
  simp [wpOpsS, go_sem, recoverD, hu, Try.ntmps164, Exit.thenS]
  apply wpS_seq
  apply wpS_region
  simp [wpOpsS, go_sem, Exit.thenS]
  refine wpS_cond (t := false) (by simp [Act.eval, Array.replicate]) ?_
  simp only [Bool.false_eq_true, if_false]
  refine wpS_of_wp (wp_skip ?_)
  cases c₀
  simp_all [bodyPostS, results, Try.results164]

set_option maxRecDepth 100000 in
set_option maxHeartbeats 1000000 in
theorem ask164_panicking (g p v b : Nat) (x : Value) (cs0 : List Value) (w : World) (hg : w.cell? ⟨g, 0, none⟩ = some (.pointer (some ⟨p, 0, none⟩))) (hv : Blk w v [x] 22) (hp : Blk w p cs0 119) (h3 : cs0.length = 3) (hne : v ≠ p) :
    CallsD Try.prog 164 #[.pointer (some ⟨g, 0, none⟩), .pointer (some ⟨v, 0, none⟩)] (.panicking [failed b]) w fun e u' w' => e = .returned (.tuple #[]) ∧ u' = .panicking [{ failed b with recovered := true }] ∧ w' = ((w.setCell ⟨p, 2, none⟩ (.int .i64 b)).setCell ⟨v, 0, none⟩ (.int .i8 0)).alloc (.cells #[.int .i64 b] 186) := by
  obtain ⟨f0, f1⟩ := hp.rules
  obtain ⟨f2, f3⟩ := hv.rules
  obtain ⟨c0, c1, c2, rfl⟩ : ∃ c0 c1 c2, cs0 = [c0, c1, c2] := by
    match cs0, h3 with
    | [c0, c1, c2], _ => exact ⟨_, _, _, rfl⟩
  have hgl : g < w.heap.size := cell_lt hg
  have hpl := hp.lt
  have hvl := hv.lt
  have hne' : p ≠ v := fun e => hne e.symm
  have hta : ∀ (n : Int) (w : World), (Instr.typeAssert (.iface 186 (.agg #[.int .i64 n])) 20 186 true).run Try.prog w = .ok (.tuple #[.agg #[.int .i64 n], .bool true]) w := fun _ _ => by kernel_rfl
  refine callsD_of_wpS Try.func164 rfl fun c₀ cs hu => ?_
  simp only [Try.ntmps164, List.size_toArray, List.length_cons, List.length_nil, Nat.reduceAdd, Nat.reduceSub, Array.replicate_succ, Array.replicate_zero, List.push_toArray, List.append_toArray, List.nil_append, List.cons_append]
  apply wpS_seq
  apply wpS_region
  simp [wpOpsS, go_sem, recoverD, hu, failed, Exit.thenS, Act.put]
  apply wpS_seq
  apply wpS_region
  simp [wpOpsS, go_sem, Exit.thenS, Act.put]
  refine wpS_cond (t := true) rfl ?_
  simp only [if_true]
  refine wpS_of_wp ?_
  generalize hQ : (fun e a' w' => bodyPostS _ _ _ _ _ e a' _ w') = Q
  have HQ := Lib.hid hQ
  clear hQ hu
  go_wp2
  rw [← HQ.out]
  exact ⟨rfl, _, rfl, _, by simp [results, Try.results164], rfl, rfl, rfl⟩

set_option maxRecDepth 100000 in
set_option maxHeartbeats 1000000 in
theorem ask102 (p B : Nat) (bs : List Int) (f : Nat → Except Nat (Int × Nat)) (k : FuncId) (first cap : Array Value) (st : Rs) (w : World) (h : PubAt w p B bs st)
    (hk : ∀ w, (callFunc k (first ++ cap)).run Try.prog w = .ok (.enter k (first ++ cap)) w)
    (hc : ∀ a w1, st = .ok a → RdAt w1 p B bs a (-1) → Fr w w1 → Calls Try.prog k (first ++ cap) w1 (Reads p B bs (f a) (fun _ v x => v = .int .i8 x ∧ (Lit.int .i8 x).wf = true) w1)) :
    Calls Try.prog 102 #[.pointer (some ⟨p, 0, none⟩), .func (.func k) first cap] w fun e w' =>
      ∃ x, x = (asked f 0 st).1 ∧ e = .returned (.int .i8 x) ∧ ((Lit.int .i8 x).wf = true) ∧ PubAt w' p B bs (asked f 0 st).2 ∧ Trn (· = p) w w' := by
  cases st with
  | error b =>
    have HP := Lib.hid h
    obtain ⟨hbl, a, h⟩ := h
    obtain ⟨A, cp, hb, hcap, hrow, h1, h2, hpB, hBz⟩ := h
    obtain ⟨f0, f1⟩ := hb.rules
    have hz := hb.lt
    clear hrow hk hc
    go_enter_defers Try.func102, Try.ntmps102
    go_wp2
    refine ⟨.int .i8 0, by simp [results, Try.results102, go_sem], 0, rfl, rfl, (by decide), ?_, ?_⟩
    · exact HP.out.keep ((Fr.new w _).alloc _)
    · exact Trn.of_fr ((Fr.new w _).alloc _)
  | ok a =>
    have h0 := h
    obtain ⟨A, cp, hb, hcap, hrow, h1, h2, hpB, hBz⟩ := h0
    obtain ⟨f0, f1⟩ := hb.rules
    have hz := hb.lt
    have hmf : ∀ (fn : Fn) (first cap : Array Value) (w : World), (Instr.makeFunc fn first cap).run Try.prog w = .ok (.func fn first cap) w := fun _ _ _ _ => rfl
    have HH := Lib.hid h
    have HC := Lib.hid hc
    clear h hc hrow
    go_enter_defers Try.func102, Try.ntmps102
    go_wp2_with fail
    have hF : Fr w ((w.alloc (.cells #[.pointer (some ⟨p, 0, none⟩)] 38)).alloc (.cells #[(.int .i8 0)] 22)) := (Fr.new w _).alloc _
    have b0 := (Blk.new w [.pointer (some ⟨p, 0, none⟩)] 38).alloc (.cells #[(.int .i8 0)] 22)
    have b1 := Blk.new (w.alloc (.cells #[.pointer (some ⟨p, 0, none⟩)] 38)) [(.int .i8 0)] 22
    rw [World.size_alloc] at b1
    have hA := HH.out.keep hF
    refine (HC.out a _ rfl hA hF).mono ?_
    rintro e w1 ⟨hT0, hr⟩
    have hT := hT0.t
    have hpl := hA.lt
    have hne0 : w.heap.size ≠ p := by omega
    have hne1 : w.heap.size + 1 ≠ p := by omega
    have hT2 : Trn (· = p) w w1 := (Trn.of_fr hF).trans hT
    have b0' := b0.trn hT hne0
    have b1' := b1.trn hT hne1
    obtain ⟨q0, q1⟩ := b0'.rules
    obtain ⟨q2, q3⟩ := b1'.rules
    have hz1 := b1'.lt
    clear f0 f1
    cases hfa : f a with
    | error b =>
      rw [hfa] at hr
      obtain ⟨at', rfl, h', hbl⟩ := hr
      have h0 := h'
      obtain ⟨A', cp', hb', -⟩ := h0
      refine leaves_cons (f := 164) (args := #[.pointer (some ⟨w.heap.size, 0, none⟩), .pointer (some ⟨w.heap.size + 1, 0, none⟩)]) (by simp) (by simp [go_sem]) ?_
      refine (ask164_panicking w.heap.size p (w.heap.size + 1) b _ _ w1 (by simpa using q0 0) b1' hb' rfl hne1).mono ?_
      rintro e u' w'' ⟨rfl, rfl, rfl⟩
      have hB := h'.low
      have hF2 : RdAt (((w1.setCell ⟨p, 2, none⟩ (.int .i64 b)).setCell ⟨w.heap.size + 1, 0, none⟩ (.int .i8 0)).alloc (.cells #[.int .i64 b] 186)) p B bs at' b := ((h'.set2 (bad' := b)).setFar (by omega) 0 _).keep (Fr.new _ _)
      have b2 : Blk (((w1.setCell ⟨p, 2, none⟩ (.int .i64 b)).setCell ⟨w.heap.size + 1, 0, none⟩ (.int .i8 0)).alloc (.cells #[.int .i64 b] 186)) (w.heap.size + 1) [(.int .i8 0)] 22 := ((b1'.far hne1 2 _).set 0 _).alloc _
      have c2 := b2.rules.1 0
      simp only [List.getElem?_cons_zero] at c2
      simp only [Leaves, settle, List.dropWhile_nil]
      refine ⟨.int .i8 0, by simp [results, Try.results102, go_sem, c2], 0, by simp [asked, hfa], rfl, (by decide), ?_, ?_⟩
      · simp only [asked, hfa]
        exact ⟨hbl, _, hF2⟩
      · exact ((hT2.setp _ _).set (.inr (by omega)) _ _).alloc _
    | ok r =>
      obtain ⟨x, a'⟩ := r
      rw [hfa] at hr
      obtain ⟨v, rfl, ⟨rfl, hwf⟩, h'⟩ := hr
      have H' := Lib.hid h'
      clear h'
      go_wp2
      refine leaves_cons (f := 164) (args := #[.pointer (some ⟨w.heap.size, 0, none⟩), .pointer (some ⟨w.heap.size + 1, 0, none⟩)]) (by simp) (by simp [go_sem]) ?_
      refine (ask164_idle _ _ _).mono ?_
      rintro e u' w'' ⟨rfl, rfl, rfl⟩
      have hB := H'.out.low
      have b2 := b1'.set 0 (.int .i8 x)
      have c2 := b2.rules.1 0
      simp only [List.set_cons_zero, List.getElem?_cons_zero] at c2
      simp only [Leaves, settle]
      refine ⟨.int .i8 x, by simp [results, Try.results102, go_sem, c2], x, by simp [asked, hfa], rfl, hwf, ?_, ?_⟩
      · simp only [asked, hfa]
        exact H'.out.setFar (by omega) 0 _
      · exact hT2.set (.inr (by omega)) _ _

set_option maxRecDepth 100000 in
set_option maxHeartbeats 1000000 in
theorem ask165_idle (r v : Addr) (w : World) :
    CallsD Try.prog 165 #[.pointer (some r), .pointer (some v)] .returning w fun e u' w' => e = .returned (.tuple #[]) ∧ u' = .returning ∧ w' = w := by
  refine callsD_of_wpS Try.func165 rfl fun c₀ cs hu => ?_
  apply wpS_seq
  apply wpS_region
  simp [wpOpsS, go_sem, recoverD, hu, Try.ntmps165, Exit.thenS]
  apply wpS_seq
  apply wpS_region
  simp [wpOpsS, go_sem, Exit.thenS]
  refine wpS_cond (t := false) (by simp [Act.eval, Array.replicate]) ?_
  simp only [Bool.false_eq_true, if_false]
  refine wpS_of_wp (wp_skip ?_)
  cases c₀
  simp_all [bodyPostS, results, Try.results165]

set_option maxRecDepth 100000 in
set_option maxHeartbeats 1000000 in
theorem ask165_panicking (g p v b : Nat) (x : Value) (cs0 : List Value) (w : World) (hg : w.cell? ⟨g, 0, none⟩ = some (.pointer (some ⟨p, 0, none⟩))) (hv : Blk w v [x] 9) (hp : Blk w p cs0 119) (h3 : cs0.length = 3) (hne : v ≠ p) :
    CallsD Try.prog 165 #[.pointer (some ⟨g, 0, none⟩), .pointer (some ⟨v, 0, none⟩)] (.panicking [failed b]) w fun e u' w' => e = .returned (.tuple #[]) ∧ u' = .panicking [{ failed b with recovered := true }] ∧ w' = ((w.setCell ⟨p, 2, none⟩ (.int .i64 b)).setCell ⟨v, 0, none⟩ (.string ⟨#[]⟩)).alloc (.cells #[.int .i64 b] 186) := by
  obtain ⟨f0, f1⟩ := hp.rules
  obtain ⟨f2, f3⟩ := hv.rules
  obtain ⟨c0, c1, c2, rfl⟩ : ∃ c0 c1 c2, cs0 = [c0, c1, c2] := by
    match cs0, h3 with
    | [c0, c1, c2], _ => exact ⟨_, _, _, rfl⟩
  have hgl : g < w.heap.size := cell_lt hg
  have hpl := hp.lt
  have hvl := hv.lt
  have hne' : p ≠ v := fun e => hne e.symm
  have hta : ∀ (n : Int) (w : World), (Instr.typeAssert (.iface 186 (.agg #[.int .i64 n])) 20 186 true).run Try.prog w = .ok (.tuple #[.agg #[.int .i64 n], .bool true]) w := fun _ _ => by kernel_rfl
  refine callsD_of_wpS Try.func165 rfl fun c₀ cs hu => ?_
  simp only [Try.ntmps165, List.size_toArray, List.length_cons, List.length_nil, Nat.reduceAdd, Nat.reduceSub, Array.replicate_succ, Array.replicate_zero, List.push_toArray, List.append_toArray, List.nil_append, List.cons_append]
  apply wpS_seq
  apply wpS_region
  simp [wpOpsS, go_sem, recoverD, hu, failed, Exit.thenS, Act.put]
  apply wpS_seq
  apply wpS_region
  simp [wpOpsS, go_sem, Exit.thenS, Act.put]
  refine wpS_cond (t := true) rfl ?_
  simp only [if_true]
  refine wpS_of_wp ?_
  generalize hQ : (fun e a' w' => bodyPostS _ _ _ _ _ e a' _ w') = Q
  have HQ := Lib.hid hQ
  clear hQ hu
  go_wp2
  rw [← HQ.out]
  exact ⟨rfl, _, rfl, _, by simp [results, Try.results165], rfl, rfl, rfl⟩

set_option maxRecDepth 100000 in
set_option maxHeartbeats 1000000 in
theorem ask104 (p B : Nat) (bs : List Int) (f : Nat → Except Nat (ByteArray × Nat)) (k : FuncId) (first cap : Array Value) (st : Rs) (w : World) (h : PubAt w p B bs st)
    (hk : ∀ w, (callFunc k (first ++ cap)).run Try.prog w = .ok (.enter k (first ++ cap)) w)
    (hc : ∀ a w1, st = .ok a → RdAt w1 p B bs a (-1) → Fr w w1 → Calls Try.prog k (first ++ cap) w1 (Reads p B bs (f a) (fun _ v x => v = .string x ∧ x.size ≤ maxLen) w1)) :
    Calls Try.prog 104 #[.pointer (some ⟨p, 0, none⟩), .func (.func k) first cap] w fun e w' =>
      ∃ x, x = (asked f (⟨#[]⟩ : ByteArray) st).1 ∧ e = .returned (.string x) ∧ (x.size ≤ maxLen) ∧ PubAt w' p B bs (asked f (⟨#[]⟩ : ByteArray) st).2 ∧ Trn (· = p) w w' := by
  cases st with
  | error b =>
    have HP := Lib.hid h
    obtain ⟨hbl, a, h⟩ := h
    obtain ⟨A, cp, hb, hcap, hrow, h1, h2, hpB, hBz⟩ := h
    obtain ⟨f0, f1⟩ := hb.rules
    have hz := hb.lt
    clear hrow hk hc
    go_enter_defers Try.func104, Try.ntmps104
    go_wp2
    refine ⟨.string (⟨#[]⟩ : ByteArray), by simp [results, Try.results104, go_sem], (⟨#[]⟩ : ByteArray), rfl, rfl, (by decide), ?_, ?_⟩
    · exact HP.out.keep ((Fr.new w _).alloc _)
    · exact Trn.of_fr ((Fr.new w _).alloc _)
  | ok a =>
    have h0 := h
    obtain ⟨A, cp, hb, hcap, hrow, h1, h2, hpB, hBz⟩ := h0
    obtain ⟨f0, f1⟩ := hb.rules
    have hz := hb.lt
    have hmf : ∀ (fn : Fn) (first cap : Array Value) (w : World), (Instr.makeFunc fn first cap).run Try.prog w = .ok (.func fn first cap) w := fun _ _ _ _ => rfl
    have HH := Lib.hid h
    have HC := Lib.hid hc
    clear h hc hrow
    go_enter_defers Try.func104, Try.ntmps104
    go_wp2_with fail
    have hF : Fr w ((w.alloc (.cells #[.pointer (some ⟨p, 0, none⟩)] 38)).alloc (.cells #[(.string ⟨#[]⟩)] 9)) := (Fr.new w _).alloc _
    have b0 := (Blk.new w [.pointer (some ⟨p, 0, none⟩)] 38).alloc (.cells #[(.string ⟨#[]⟩)] 9)
    have b1 := Blk.new (w.alloc (.cells #[.pointer (some ⟨p, 0, none⟩)] 38)) [(.string ⟨#[]⟩)] 9
    rw [World.size_alloc] at b1
    have hA := HH.out.keep hF
    refine (HC.out a _ rfl hA hF).mono ?_
    rintro e w1 ⟨hT0, hr⟩
    have hT := hT0.t
    have hpl := hA.lt
    have hne0 : w.heap.size ≠ p := by omega
    have hne1 : w.heap.size + 1 ≠ p := by omega
    have hT2 : Trn (· = p) w w1 := (Trn.of_fr hF).trans hT
    have b0' := b0.trn hT hne0
    have b1' := b1.trn hT hne1
    obtain ⟨q0, q1⟩ := b0'.rules
    obtain ⟨q2, q3⟩ := b1'.rules
    have hz1 := b1'.lt
    clear f0 f1
    cases hfa : f a with
    | error b =>
      rw [hfa] at hr
      obtain ⟨at', rfl, h', hbl⟩ := hr
      have h0 := h'
      obtain ⟨A', cp', hb', -⟩ := h0
      refine leaves_cons (f := 165) (args := #[.pointer (some ⟨w.heap.size, 0, none⟩), .pointer (some ⟨w.heap.size + 1, 0, none⟩)]) (by simp) (by simp [go_sem]) ?_
      refine (ask165_panicking w.heap.size p (w.heap.size + 1) b _ _ w1 (by simpa using q0 0) b1' hb' rfl hne1).mono ?_
      rintro e u' w'' ⟨rfl, rfl, rfl⟩
      have hB := h'.low
      have hF2 : RdAt (((w1.setCell ⟨p, 2, none⟩ (.int .i64 b)).setCell ⟨w.heap.size + 1, 0, none⟩ (.string ⟨#[]⟩)).alloc (.cells #[.int .i64 b] 186)) p B bs at' b := ((h'.set2 (bad' := b)).setFar (by omega) 0 _).keep (Fr.new _ _)
      have b2 : Blk (((w1.setCell ⟨p, 2, none⟩ (.int .i64 b)).setCell ⟨w.heap.size + 1, 0, none⟩ (.string ⟨#[]⟩)).alloc (.cells #[.int .i64 b] 186)) (w.heap.size + 1) [(.string ⟨#[]⟩)] 9 := ((b1'.far hne1 2 _).set 0 _).alloc _
      have c2 := b2.rules.1 0
      simp only [List.getElem?_cons_zero] at c2
      simp only [Leaves, settle, List.dropWhile_nil]
      refine ⟨.string (⟨#[]⟩ : ByteArray), by simp [results, Try.results104, go_sem, c2], (⟨#[]⟩ : ByteArray), by simp [asked, hfa], rfl, (by decide), ?_, ?_⟩
      · simp only [asked, hfa]
        exact ⟨hbl, _, hF2⟩
      · exact ((hT2.setp _ _).set (.inr (by omega)) _ _).alloc _
    | ok r =>
      obtain ⟨x, a'⟩ := r
      rw [hfa] at hr
      obtain ⟨v, rfl, ⟨rfl, hwf⟩, h'⟩ := hr
      have H' := Lib.hid h'
      clear h'
      go_wp2
      refine leaves_cons (f := 165) (args := #[.pointer (some ⟨w.heap.size, 0, none⟩), .pointer (some ⟨w.heap.size + 1, 0, none⟩)]) (by simp) (by simp [go_sem]) ?_
      refine (ask165_idle _ _ _).mono ?_
      rintro e u' w'' ⟨rfl, rfl, rfl⟩
      have hB := H'.out.low
      have b2 := b1'.set 0 (.string x)
      have c2 := b2.rules.1 0
      simp only [List.set_cons_zero, List.getElem?_cons_zero] at c2
      simp only [Leaves, settle]
      refine ⟨.string x, by simp [results, Try.results104, go_sem, c2], x, by simp [asked, hfa], rfl, hwf, ?_, ?_⟩
      · simp only [asked, hfa]
        exact H'.out.setFar (by omega) 0 _
      · exact hT2.set (.inr (by omega)) _ _

end Go.Proofs.Ytbhmpbaembmlnaa
