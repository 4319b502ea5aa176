/- code.ask at trees; Reader.Node, Reader.Steps. -/
import Derived.Test.YtbhmpbaembmlnaaF0
set_option linter.unusedVariables false
namespace Go.Proofs.Ytbhmpbaembmlnaa
open Go.RowKit

def nd0 : Nd := ⟨0, 0, ⟨#[]⟩, []⟩
theorem nd0_reads (w : World) (S : Nat → Prop) : RN w S nd0 zeroNd := RN.close (t := nd0) (A := none) (cap := 0) (Nat.le_refl _) (by simp [nd0]) (Row.nil _ _ _ _) (by decide) (by decide) (Nat.zero_le _)

set_option maxRecDepth 100000 in
set_option maxHeartbeats 1000000 in
theorem ask166_idle (r v : Addr) (w : World) :
    CallsD Try.prog 166 #[.pointer (some r), .pointer (some v)] .returning w fun e u' w' => e = .returned (.tuple #[]) ∧ u' = .returning ∧ w' = w := by
  refine callsD_of_wpS Try.func166 rfl fun c₀ cs hu => ?_
  apply wpS_seq
  apply wpS_region
  simp [wpOpsS, go_sem, recoverD, hu, Try.ntmps166, Exit.thenS]
  apply wpS_seq
  apply wpS_region
  simp [wpOpsS, go_sem, Exit.thenS]
  refine wpS_cond (t := false) (by simp [Act.eval, Array.replicate]) ?_
  simp only [Bool.false_eq_true, if_false]
  refine wpS_of_wp (wp_skip ?_)
  cases c₀
  simp_all [bodyPostS, results, Try.results166]

set_option maxRecDepth 100000 in
set_option maxHeartbeats 1000000 in
theorem ask166_panicking (g p v b : Nat) (y0 y1 y2 y3 : Value) (cs0 : List Value) (w : World) (hg : w.cell? ⟨g, 0, none⟩ = some (.pointer (some ⟨p, 0, none⟩))) (hv : Blk w v [y0, y1, y2, y3] 25) (hp : Blk w p cs0 119) (h3 : cs0.length = 3) (hne : v ≠ p) (hgx : g ≠ p ∧ g ≠ v) :
    CallsD Try.prog 166 #[.pointer (some ⟨g, 0, none⟩), .pointer (some ⟨v, 0, none⟩)] (.panicking [failed b]) w fun e u' w' => e = .returned (.tuple #[]) ∧ u' = .panicking [{ failed b with recovered := true }] ∧ ∃ o1 o2, w' = (((((((w.setCell ⟨p, 2, none⟩ (.int .i64 b)).setCell ⟨v, 0, none⟩ (.int .i64 0)).setCell ⟨v, 1, none⟩ (.int .i64 0)).setCell ⟨v, 2, none⟩ (.string ⟨#[]⟩)).setCell ⟨v, 3, none⟩ (.slice none 0 0)).alloc o1).alloc o2).drewN 1 := by
  obtain ⟨f0, f1⟩ := hp.rules
  obtain ⟨f2, f3⟩ := hv.rules
  obtain ⟨c0, c1, c2, rfl⟩ : ∃ c0 c1 c2, cs0 = [c0, c1, c2] := by
    match cs0, h3 with
    | [c0, c1, c2], _ => exact ⟨_, _, _, rfl⟩
  have hgl : g < w.heap.size := cell_lt hg
  have hpl := hp.lt
  have hvl := hv.lt
  have hne' : p ≠ v := fun e => hne e.symm
  have hpl1 : p < w.heap.size + 1 := by omega
  have hvl1 : v < w.heap.size + 1 := by omega
  have hgl1 : g < w.heap.size + 1 := by omega
  have hta : ∀ (n : Int) (w : World), (Instr.typeAssert (.iface 186 (.agg #[.int .i64 n])) 20 186 true).run Try.prog w = .ok (.tuple #[.agg #[.int .i64 n], .bool true]) w := fun _ _ => by kernel_rfl
  refine callsD_of_wpS Try.func166 rfl fun c₀ cs hu => ?_
  simp only [Try.ntmps166, List.size_toArray, List.length_cons, List.length_nil, Nat.reduceAdd, Nat.reduceSub, Array.replicate_succ, Array.replicate_zero, List.push_toArray, List.append_toArray, List.nil_append, List.cons_append]
  apply wpS_seq
  apply wpS_region
  simp [wpOpsS, go_sem, recoverD, hu, failed, Exit.thenS, Act.put]
  apply wpS_seq
  apply wpS_region
  simp [wpOpsS, go_sem, Exit.thenS, Act.put]
  refine wpS_cond (t := true) rfl ?_
  simp only [if_true]
  refine wpS_of_wp ?_
  generalize hQ : (fun e a' w' => bodyPostS _ _ _ _ _ e a' _ w') = Q
  have HQ := Lib.hid hQ
  clear hQ hu
  go_wp2_with fail
  have hF0 : Fr w ((w.alloc (.cells #[.int .i64 b] 186)).alloc (.cells #[.int .i64 0, .int .i64 0, .string ⟨#[]⟩, .slice none 0 0] 25)) := (Fr.new w _).alloc _
  have k0 := (Blk.new w [.int .i64 b] 186).alloc (.cells #[.int .i64 0, .int .i64 0, .string ⟨#[]⟩, .slice none 0 0] 25)
  have k1 := Blk.new (w.alloc (.cells #[.int .i64 b] 186)) zeroNd 25
  rw [World.size_alloc] at k1
  have hgp := hgx
  have hS : ∀ W', Trn (fun k => k = p ∨ k = v) ((w.alloc (.cells #[.int .i64 b] 186)).alloc (.cells #[.int .i64 0, .int .i64 0, .string ⟨#[]⟩, .slice none 0 0] 25)) W' → W'.cell? ⟨g, 0, none⟩ = some (.pointer (some ⟨p, 0, none⟩)) ∧ W'.cell? ⟨w.heap.size, 0, none⟩ = some (.int .i64 b) ∧ (∀ j, W'.cell? ⟨w.heap.size + 1, j, none⟩ = zeroNd[j]?) := fun W' h =>
    ⟨h.keeps.cell (fun e => e.elim hgp.1 hgp.2) (hF0.keeps.cell trivial hg), (k0.trn h (by omega)).rules.1 0, (k1.trn h (by omega)).rules.1⟩
  have HSS := Lib.hid hS
  clear hS
  refine wp_region_plan [(true, 0), (true, 1), (true, 2), (true, 3), (true, 4), (true, 5), (false, 6), (false, 7)] (Trn (fun k => k = p ∨ k = v) ((w.alloc (.cells #[.int .i64 b] 186)).alloc (.cells #[.int .i64 0, .int .i64 0, .string ⟨#[]⟩, .slice none 0 0] 25))) (by kernel_rfl) (by kernel_rfl) (by kernel_rfl) (by kernel_rfl) (by rw [← HQ.out]; exact fun _ _ d _ _ h => by cases d <;> exact h) ((Trn.refl _ _).drewN 1) ?_
  simp only [planOps, List.getElem?_toArray, List.getElem?_cons_zero, List.getElem?_cons_succ]
  repeat (first
    | (refine wpSeqH_skip rfl ?_; simp only [Act.put, List.setIfInBounds_toArray, List.set_cons_zero, List.set_cons_succ])
    | (refine wpSeqH_take (v := ?_) rfl (fun w' hw' => ?_) ?_; rotate_left; (obtain ⟨q1, q2, q3⟩ := HSS.out _ hw'; go_simp; with_reducible rfl); simp only [Act.put, List.setIfInBounds_toArray, List.set_cons_zero, List.set_cons_succ]))
  refine wpSeqH_run rfl (fun K hK => ?_)
  go_wp2_with fail
  have hcomm : ∀ (W : World) (g j : Nat) (u : Value) (o1 o2 : Obj), g < W.heap.size → ((W.setCell ⟨g, j, none⟩ u).alloc o1).alloc o2 = ((W.alloc o1).alloc o2).setCell ⟨g, j, none⟩ u := fun W g j u o1 o2 h => by
    rw [World.setCell_alloc_past _ _ _ _ (by simp; omega), World.setCell_alloc_past _ _ _ _ h]
  have hT1 : Trn (fun k => k = p ∨ k = v) ((w.alloc (.cells #[.int .i64 b] 186)).alloc (.cells #[.int .i64 0, .int .i64 0, .string ⟨#[]⟩, .slice none 0 0] 25)) (((w.setCell ⟨p, 2, none⟩ (.int .i64 b)).alloc (.cells #[.int .i64 b] 186)).alloc (.cells #[.int .i64 0, .int .i64 0, .string ⟨#[]⟩, .slice none 0 0] 25)) := by
    rw [hcomm _ _ _ _ _ _ hpl]; exact (Trn.refl _ _).set (.inl (.inl rfl)) _ _
  have HT1 := Lib.hid hT1
  have Hcm := Lib.hid hcomm
  clear hT1 hcomm
  refine hK.out _ _ (HT1.out.drewN 1) ?_
  clear hK K
  refine wpSeqH_run rfl (fun K hK => ?_)
  go_wp2_with fail
  refine hK.out _ _ ?_ ?_
  · refine Trn.drewN (n := 1) ?_
    have e := fun (W : World) (g j : Nat) (u : Value) => Hcm.out W g j u (.cells #[.int .i64 b] 186) (.cells #[.int .i64 0, .int .i64 0, .string ⟨#[]⟩, .slice none 0 0] 25)
    rw [e _ _ _ _ (by simp only [size_set]; exact hvl), e _ _ _ _ (by simp only [size_set]; exact hvl), e _ _ _ _ (by simp only [size_set]; exact hvl), e _ _ _ _ (by simp only [size_set]; exact hvl)]
    exact (((HT1.out.set (.inl (.inr rfl)) _ _).set (.inl (.inr rfl)) _ _).set (.inl (.inr rfl)) _ _).set (.inl (.inr rfl)) _ _
  clear hK K
  refine wpSeqH_done ?_
  rw [← HQ.out]
  exact ⟨rfl, _, rfl, _, by simp [results, Try.results166], rfl, rfl, _, _, rfl⟩

set_option maxRecDepth 100000 in
set_option maxHeartbeats 1000000 in
theorem ask106 (p B : Nat) (bs : List Int) (f : Nat → Except Nat (Nd × Nat)) (k : FuncId) (first cap : Array Value) (st : Rs) (w : World) (h : PubAt w p B bs st)
    (hk : ∀ w, (callFunc k (first ++ cap)).run Try.prog w = .ok (.enter k (first ++ cap)) w)
    (hc : ∀ a w1, st = .ok a → RdAt w1 p B bs a (-1) → Fr w w1 → Calls Try.prog k (first ++ cap) w1 (Reads p B bs (f a) (SinceNd w1.heap.size) w1)) :
    Calls Try.prog 106 #[.pointer (some ⟨p, 0, none⟩), .func (.func k) first cap] w fun e w' =>
      ∃ v, e = .returned v ∧ SinceNd w.heap.size w' v (asked f nd0 st).1 ∧ PubAt w' p B bs (asked f nd0 st).2 ∧ Trn (· = p) w w' := by
  cases st with
  | error b =>
    have HP := Lib.hid h
    obtain ⟨hbl, a, h⟩ := h
    obtain ⟨A, cp, hb, hcap, hrow, h1, h2, hpB, hBz⟩ := h
    obtain ⟨f0, f1⟩ := hb.rules
    have hz := hb.lt
    clear hrow hk hc
    go_enter_defers Try.func106, Try.ntmps106
    go_wp2
    refine ⟨.agg zeroNd.toArray, by simp [results, Try.results106, go_sem], _, rfl, ⟨_, rfl, nd0_reads _ _⟩, ?_, ?_⟩
    · exact HP.out.keep ((Fr.new w _).alloc _)
    · exact Trn.of_fr ((Fr.new w _).alloc _)
  | ok a =>
    have h0 := h
    obtain ⟨A, cp, hb, hcap, hrow, h1, h2, hpB, hBz⟩ := h0
    obtain ⟨f0, f1⟩ := hb.rules
    have hz := hb.lt
    have hmf : ∀ (fn : Fn) (first cap : Array Value) (w : World), (Instr.makeFunc fn first cap).run Try.prog w = .ok (.func fn first cap) w := fun _ _ _ _ => rfl
    have HH := Lib.hid h
    have HC := Lib.hid hc
    clear h hc hrow
    go_enter_defers Try.func106, Try.ntmps106
    go_wp2_with fail
    have hF : Fr w ((w.alloc (.cells #[.pointer (some ⟨p, 0, none⟩)] 38)).alloc (.cells #[.int .i64 0, .int .i64 0, .string ⟨#[]⟩, .slice none 0 0] 25)) := (Fr.new w _).alloc _
    have b0 := (Blk.new w [.pointer (some ⟨p, 0, none⟩)] 38).alloc (.cells #[.int .i64 0, .int .i64 0, .string ⟨#[]⟩, .slice none 0 0] 25)
    have b1 := Blk.new (w.alloc (.cells #[.pointer (some ⟨p, 0, none⟩)] 38)) [.int .i64 0, .int .i64 0, .string ⟨#[]⟩, .slice none 0 0] 25
    rw [World.size_alloc] at b1
    have hA := HH.out.keep hF
    refine (HC.out a _ rfl hA hF).mono ?_
    rintro e w1 ⟨hT0, hr⟩
    have hT := hT0.t
    have hpl := hA.lt
    have hne0 : w.heap.size ≠ p := by omega
    have hne1 : w.heap.size + 1 ≠ p := by omega
    have hT2 : Trn (· = p) w w1 := (Trn.of_fr hF).trans hT
    have b0' := b0.trn hT hne0
    have b1' := b1.trn hT hne1
    obtain ⟨q0, q1⟩ := b0'.rules
    obtain ⟨q2, q3⟩ := b1'.rules
    have hz1 := b1'.lt
    clear f0 f1
    cases hfa : f a with
    | error b =>
      rw [hfa] at hr
      obtain ⟨at', rfl, h', hbl⟩ := hr
      have h0 := h'
      obtain ⟨A', cp', hb', -⟩ := h0
      refine leaves_cons (f := 166) (args := #[.pointer (some ⟨w.heap.size, 0, none⟩), .pointer (some ⟨w.heap.size + 1, 0, none⟩)]) (by simp) (by simp [go_sem]) ?_
      refine (ask166_panicking w.heap.size p (w.heap.size + 1) b _ _ _ _ _ w1 (by simpa using q0 0) b1' hb' rfl hne1 ⟨hne0, by omega⟩).mono ?_
      rintro e u' w'' ⟨rfl, rfl, o1, o2, rfl⟩
      have hB := h'.low
      have hF2 : RdAt ((((((w1.setCell ⟨p, 2, none⟩ (.int .i64 b)).setCell ⟨w.heap.size + 1, 0, none⟩ (.int .i64 0)).setCell ⟨w.heap.size + 1, 1, none⟩ (.int .i64 0)).setCell ⟨w.heap.size + 1, 2, none⟩ (.string ⟨#[]⟩)).setCell ⟨w.heap.size + 1, 3, none⟩ (.slice none 0 0)).alloc o1 |>.alloc o2 |>.drewN 1) p B bs at' b :=
        (((((h'.set2 (bad' := b)).setFar (by omega) 0 _).setFar (by omega) 1 _).setFar (by omega) 2 _).setFar (by omega) 3 _).keep (((Fr.new _ _).alloc _).drewN 1)
      have b2 := (((((((b1'.far hne1 2 (.int .i64 b)).set 0 (.int .i64 0)).set 1 (.int .i64 0)).set 2 (.string ⟨#[]⟩)).set 3 (.slice none 0 0)).alloc o1).alloc o2).drewN 1
      obtain ⟨c2, -⟩ := b2.rules
      simp only [Leaves, settle, List.dropWhile_nil]
      refine ⟨.agg zeroNd.toArray, by simp [results, Try.results106, go_sem, c2], _, rfl, ?_, ?_, ?_⟩
      · simp only [asked, hfa]
        exact ⟨_, rfl, nd0_reads _ _⟩
      · simp only [asked, hfa]
        exact ⟨hbl, _, hF2⟩
      · exact ((((((hT2.setp _ _).set (.inr (by omega)) _ _).set (.inr (by omega)) _ _).set (.inr (by omega)) _ _).set (.inr (by omega)) _ _).alloc _).alloc _ |>.drewN 1
    | ok r =>
      obtain ⟨x, a'⟩ := r
      rw [hfa] at hr
      obtain ⟨v, rfl, ⟨cs, rfl, hR⟩, h'⟩ := hr
      simp only [World.size_alloc] at hR
      obtain ⟨A', cap', rfl, -⟩ := hR.open
      have HR := Lib.hid hR
      have Hfa := Lib.hid hfa
      have H' := Lib.hid h'
      clear h' hR hfa
      go_wp2
      refine leaves_cons (f := 166) (args := #[.pointer (some ⟨w.heap.size, 0, none⟩), .pointer (some ⟨w.heap.size + 1, 0, none⟩)]) (by simp) (by simp [go_sem]) ?_
      refine (ask166_idle _ _ _).mono ?_
      rintro e u' w'' ⟨rfl, rfl, rfl⟩
      have hB := H'.out.low
      have b2 := (((b1'.set 0 (.int .i64 x.id)).set 1 (.int .i64 x.kind)).set 2 (.string x.text)).set 3 (.slice A' x.kids.length cap')
      obtain ⟨c2, -⟩ := b2.rules
      simp only [Leaves, settle]
      refine ⟨.agg #[.int .i64 x.id, .int .i64 x.kind, .string x.text, .slice A' x.kids.length cap'], by simp [results, Try.results106, go_sem, c2], _, rfl, ?_, ?_, ?_⟩
      · simp only [asked, Hfa.out]
        refine ⟨_, rfl, RN.mono (RN.keep HR.out ?_) (fun k (hk : w.heap.size + 1 + 1 ≤ k) _ => (by omega : w.heap.size ≤ k))⟩
        (repeat (with_reducible refine Keeps.set ?_ (by omega) _ _))
        exact Keeps.refl _ _
      · simp only [asked, Hfa.out]
        exact (((H'.out.setFar (by omega) _ _).setFar (by omega) _ _).setFar (by omega) _ _).setFar (by omega) _ _
      · exact (((hT2.set (.inr (by omega)) _ _).set (.inr (by omega)) _ _).set (.inr (by omega)) _ _).set (.inr (by omega)) _ _

set_option maxRecDepth 100000 in
set_option maxHeartbeats 1000000 in
theorem pNode (p B : Nat) (bs : List Int) (st : Rs) (w : World) (h : PubAt w p B bs st) :
    Calls Try.prog 34 #[.pointer (some ⟨p, 0, none⟩)] w fun e w' => ∃ v, e = .returned v ∧ SinceNd w.heap.size w' v (asked (rdTree bs) nd0 st).1 ∧ PubAt w' p B bs (asked (rdTree bs) nd0 st).2 ∧ Trn (· = p) w w' := by
  have hmf : ∀ (fn : Fn) (first cap : Array Value) (w : World), (Instr.makeFunc fn first cap).run Try.prog w = .ok (.func fn first cap) w := fun _ _ _ _ => rfl
  have hp : p < w.heap.size ∧ B ≤ w.heap.size := by
    cases st with
    | ok a => exact ⟨RdAt.lt h, (RdAt.low h).2⟩
    | error b => obtain ⟨-, a, h⟩ := h; exact ⟨h.lt, h.low.2⟩
  go_enter Try.func34, Try.ntmps34
  go_wp2_with fail
  have hF : Fr w (w.alloc (.cells #[.int .i64 0, .int .i64 0, .string ⟨#[]⟩, .slice none 0 0] 25)) := Fr.new w _
  have b0 := Blk.new w zeroNd 25
  refine (ask106 p B bs (rdTree bs) 107 #[.pointer (some ⟨p, 0, none⟩)] #[] st _ (h.keep hF) (fun w => by simp [go_sem]) (fun a w1 _ h1 _ => cNode p B bs a w1 h1)).mono ?_
  rintro e w1 ⟨v, rfl, ⟨cs, rfl, hR⟩, hP, hT⟩
  obtain ⟨A, cap, hcs, -⟩ := hR.open
  subst hcs
  obtain ⟨x, hx⟩ : ∃ x, (asked (rdTree bs) nd0 st).1 = x := ⟨_, rfl⟩
  rw [hx] at hR ⊢
  have Hx := Lib.hid hx
  clear hx
  simp only [World.size_alloc] at hR
  have HR := Lib.hid hR
  have HP := Lib.hid hP
  have hT2 : Trn (· = p) w w1 := (Trn.of_fr hF).trans hT
  have hb1 := b0.trn hT (by omega)
  obtain ⟨f0, f1⟩ := hb1.rules
  have hz1 := hb1.lt
  clear hR hP hT b0
  go_wp2
  have b2 := (((hb1.set 0 (.int .i64 x.id)).set 1 (.int .i64 x.kind)).set 2 (.string x.text)).set 3 (.slice A x.kids.length cap)
  obtain ⟨q0, q1⟩ := b2.rules
  refine bodyPost_ret (v := .agg #[.int .i64 x.id, .int .i64 x.kind, .string x.text, .slice A x.kids.length cap]) (by simp [results, Try.results34, go_sem, q0]) rfl ?_
  rw [Hx.out]
  refine ⟨_, rfl, ⟨_, rfl, ?_⟩, ?_, ?_⟩
  · refine RN.mono (RN.keep HR.out ?_) (fun k (hk : w.heap.size + 1 ≤ k) _ => (by omega : w.heap.size ≤ k))
    (repeat (with_reducible refine Keeps.set ?_ (by omega) _ _))
    exact Keeps.refl _ _
  · have hset : ∀ (W : World) (g j : Nat) (u : Value) (s : Rs), B ≤ g → PubAt W p B bs s → PubAt (W.setCell ⟨g, j, none⟩ u) p B bs s := by
      intro W g j u s hg hs
      cases s with
      | ok a => exact RdAt.setFar hs hg j u
      | error b => exact ⟨hs.1, hs.2.elim fun a ha => ⟨a, ha.setFar hg j u⟩⟩
    exact hset _ _ _ _ _ hp.2 (hset _ _ _ _ _ hp.2 (hset _ _ _ _ _ hp.2 (hset _ _ _ _ _ hp.2 HP.out)))
  · exact (((hT2.set (.inr (by omega)) _ _).set (.inr (by omega)) _ _).set (.inr (by omega)) _ _).set (.inr (by omega)) _ _

set_option maxRecDepth 100000 in
set_option maxHeartbeats 1000000 in
theorem pSteps (p B : Nat) (bs : List Int) (st : Rs) (w : World) (h : PubAt w p B bs st) :
    Calls Try.prog 37 #[.pointer (some ⟨p, 0, none⟩)] w fun e w' => ∃ v, e = .returned v ∧ SinceStps w.heap.size w' v (asked (rdSteps bs) [] st).1 ∧ PubAt w' p B bs (asked (rdSteps bs) [] st).2 ∧ Trn (· = p) w w' := by
  have hmf : ∀ (fn : Fn) (first cap : Array Value) (w : World), (Instr.makeFunc fn first cap).run Try.prog w = .ok (.func fn first cap) w := fun _ _ _ _ => rfl
  have hp : p < w.heap.size ∧ B ≤ w.heap.size := by
    cases st with
    | ok a => exact ⟨RdAt.lt h, (RdAt.low h).2⟩
    | error b => obtain ⟨-, a, h⟩ := h; exact ⟨h.lt, h.low.2⟩
  have hF : Fr w (w.alloc (.cells #[.pointer (some ⟨p, 0, none⟩)] 38)) := Fr.new w _
  have b0 := Blk.new w [.pointer (some ⟨p, 0, none⟩)] 38
  go_enter Try.func37, Try.ntmps37
  go_wp2_with fail
  refine (ask109 p B bs (rdSteps bs) 110 #[] #[.pointer (some ⟨w.heap.size, 0, none⟩)] st _ (h.keep hF) (fun w => by simp [go_sem]) (fun a w1 _ h1 hf => c110 p B bs a w.heap.size w1 h1 ((b0.later hf).rules.1 0) (by omega))).mono ?_
  rintro e w1 ⟨v, rfl, hM, hP, hT⟩
  have hM' : Made elStp w1 (w.alloc (.cells #[.pointer (some ⟨p, 0, none⟩)] 38)).heap.size 27 ((w.alloc (.cells #[.pointer (some ⟨p, 0, none⟩)] 38)).heap.size ≤ ·) v (asked (rdSteps bs) [] st).1 := hM
  obtain ⟨A, cap, hv, -⟩ := hM'.slice
  simp only [World.size_alloc] at hM'
  obtain ⟨x, hx⟩ : ∃ x, (asked (rdSteps bs) [] st).1 = x := ⟨_, rfl⟩
  rw [hx] at hM' hv
  have Hx := Lib.hid hx
  clear hx
  subst hv
  have HM : Hid (SinceStps w.heap.size w1 (.slice A x.length cap) x) := Lib.hid ((hM'.rebase (by omega)).mono fun q (hq : w.heap.size + 1 ≤ q) _ => (by omega : w.heap.size ≤ q))
  have HP := Lib.hid hP
  have HT : Hid (Trn (· = p) w w1) := Lib.hid ((Trn.of_fr hF).trans hT)
  clear hM hM' hP hT
  go_wp2
  go_ret
  rw [Hx.out]
  exact ⟨_, rfl, HM.out, HP.out, HT.out⟩
end Go.Proofs.Ytbhmpbaembmlnaa
