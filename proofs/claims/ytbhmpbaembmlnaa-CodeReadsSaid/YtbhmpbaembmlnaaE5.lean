/- code.Reader.node: its parts. -/
import Derived.Test.YtbhmpbaembmlnaaE4
set_option linter.unusedVariables false
namespace Go.Proofs.Ytbhmpbaembmlnaa
open Go.RowKit

theorem info25e : (Try.prog.info? 25).map (fun i => (i.zero, i.size, i.bytes)) = some (some (.agg #[(.int .i64 0), (.int .i64 0), (.string ⟨#[]⟩), (.slice none 0 0)]), elNd.size, 56) := info25

theorem rdList_len {α σ : Type} {f : σ → Except Nat (α × σ)} : ∀ {n : Nat} {s s' : σ} {xs : List α}, rdList f n s = .ok (xs, s') → xs.length = n
  | 0, s, s', xs, h => by unfold rdList at h; injection h with h; injection h with h1 h2; subst h1; rfl
  | n + 1, s, s', xs, h => by
    unfold rdList at h
    cases h1 : rdList f n s with
    | error b => simp [h1] at h
    | ok r =>
      obtain ⟨ys, s1⟩ := r
      simp only [h1] at h
      cases h2 : f s1 with
      | error b => simp [h2] at h
      | ok r =>
        obtain ⟨y, s2⟩ := r
        simp only [h2] at h
        injection h with h; injection h with h3 h4
        subst h3
        simp [rdList_len h1]
theorem rdList_next {α σ : Type} {f : σ → Except Nat (α × σ)} {k : Nat} {s s1 s2 : σ} {xs : List α} {x : α} (h : rdList f k s = .ok (xs, s1)) (h1 : f s1 = .ok (x, s2)) : rdList f (k + 1) s = .ok (xs ++ [x], s2) := by
  simp [rdList, h, h1]
theorem rdList_err {α σ : Type} {f : σ → Except Nat (α × σ)} {k : Nat} {s s1 : σ} {xs : List α} {b : Nat} (h : rdList f k s = .ok (xs, s1)) (h1 : f s1 = .error b) : ∀ n, k < n → rdList f n s = .error b
  | 0, hn => absurd hn (by omega)
  | n + 1, hn => by
    by_cases hk : k = n
    · subst hk; simp [rdList, h, h1]
    · simp [rdList, rdList_err h h1 n (by omega)]

/-- The reader's block and the count of nodes turn. -/
abbrev Two (p g3 : Nat) : Nat → Prop := fun k => k = p ∨ k = g3

/-- What the closures of one call of 'node' stand on: B1 blocks lay before it. -/
structure NodeEnv (w : World) (p B g1 g3 g4 : Nat) : Prop where
  c1 : w.cell? ⟨g1, 0, none⟩ = some (.pointer (some ⟨p, 0, none⟩))
  c4 : w.cell? ⟨g4, 0, none⟩ = some (.func (.func 167) #[] #[.pointer (some ⟨g1, 0, none⟩), .pointer (some ⟨g3, 0, none⟩), .pointer (some ⟨g4, 0, none⟩)])
  b1 : B ≤ g1
  b3 : B ≤ g3
  b4 : B ≤ g4
  n13 : g1 ≠ g3
  n43 : g4 ≠ g3
  pB : p < B

theorem NodeEnv.trn {w w' : World} {p B g1 g3 g4 : Nat} (h : NodeEnv w p B g1 g3 g4) (hT : Trn (Two p g3) w w') : NodeEnv w' p B g1 g3 g4 := by
  have hp := h.pB
  have := h.b1; have := h.b4
  refine ⟨hT.keeps.cell (fun e => ?_) h.c1, hT.keeps.cell (fun e => ?_) h.c4, h.b1, h.b3, h.b4, h.n13, h.n43, h.pB⟩
  · rcases e with e | e
    · omega
    · exact h.n13 e
  · rcases e with e | e
    · omega
    · exact h.n43 e

/-- Where the reading of a tree stands: at a byte, so many nodes so far. -/
def NodeSt (w : World) (p B g3 : Nat) (bs : List Int) (s : Nat × Nat) : Prop := RdAt w p B bs s.1 (-1) ∧ Blk w g3 [.int .i64 s.2] 3 ∧ s.2 ≤ 200

theorem NodeSt.keep {w w' : World} {p B g3 : Nat} {bs : List Int} {s : Nat × Nat} (h : NodeSt w p B g3 bs s) (hk : Fr w w') : NodeSt w' p B g3 bs s := ⟨h.1.keep hk, h.2.1.later hk, h.2.2⟩
theorem NodeSt.far {w : World} {p B g3 : Nat} {bs : List Int} {s : Nat × Nat} (h : NodeSt w p B g3 bs s) {g : Nat} (hB : B ≤ g) (h3 : g3 ≠ g) (off : Nat) (u : Value) : NodeSt (w.setCell ⟨g, off, none⟩ u) p B g3 bs s := ⟨h.1.setFar hB off u, h.2.1.far h3 off u, h.2.2⟩

def NodeReads {α : Type} (p B g3 : Nat) (bs : List Int) (r : Except Nat (α × (Nat × Nat))) (V : World → World → Value → α → Prop) (w : World) (e : Ending) (w' : World) : Prop :=
  (Trn (Two p g3) w w' ∧ ∀ u, w.cell? ⟨p, 0, none⟩ = some u → w'.cell? ⟨p, 0, none⟩ = some u) ∧ match r with
  | .ok (x, s) => ∃ v, e = .returned v ∧ V w w' v x ∧ NodeSt w' p B g3 bs s
  | .error b => ∃ at', e = .panicked [failed b] ∧ RdAt w' p B bs at' (-1) ∧ b ≤ bs.length
/-- A tree that was made since w. -/
def NewNd (w w' : World) (v : Value) (x : Nd) : Prop := ∃ cs, v = .agg cs.toArray ∧ RN w' (w.heap.size ≤ ·) x cs
def NewNds (w w' : World) (v : Value) (xs : List Nd) : Prop := Made elNd w' w.heap.size 25 (w.heap.size ≤ ·) v xs

set_option maxRecDepth 100000 in
set_option maxHeartbeats 1000000 in
theorem c169 (p B g1 g3 g4 gd : Nat) (bs : List Int) (f : Nat) (s : Nat × Nat) (w : World) (hf : f ≤ 39)
    (ih : ∀ w, NodeEnv w p B g1 g3 g4 → NodeSt w p B g3 bs s → Calls Try.prog 167 #[.int .i64 (41 - (f : Int)), .pointer (some ⟨g1, 0, none⟩), .pointer (some ⟨g3, 0, none⟩), .pointer (some ⟨g4, 0, none⟩)] w (NodeReads p B g3 bs (rdNode bs f s) NewNd w))
    (hE : NodeEnv w p B g1 g3 g4) (hS : NodeSt w p B g3 bs s) (hd : w.cell? ⟨gd, 0, none⟩ = some (.int .i64 (40 - (f : Int)))) :
    Calls Try.prog 169 #[.pointer (some ⟨g4, 0, none⟩), .pointer (some ⟨gd, 0, none⟩)] w (NodeReads p B g3 bs (rdNode bs f s) NewNd w) := by
  have c4 := hE.c4
  have hgd := cell_lt hd
  have hg4 := cell_lt c4
  have hg4 : g4 < w.heap.size := hg4
  have hgd : gd < w.heap.size := hgd
  have hwr : IntKind.i64.wrap (40 - (f : Int) + 1) = 41 - f := by rw [wrap_small _ (by omega) (by omega)]; omega
  go_enter Try.func169, Try.ntmps169
  go_wp2_with fail
  have hF : Fr w (w.alloc (.cells #[.int .i64 0, .int .i64 0, .string ⟨#[]⟩, .slice none 0 0] 25)) := Fr.new w _
  have b0 := Blk.new w [.int .i64 0, .int .i64 0, .string ⟨#[]⟩, .slice none 0 0] 25
  have hp := hS.1.low
  have h3 := hS.2.1.lt
  have hn : ¬ Two p g3 w.heap.size := fun e => by rcases e with e | e <;> omega
  refine (ih _ (hE.trn (Trn.of_fr hF)) (hS.keep hF)).mono ?_
  rintro e w1 ⟨⟨hT, hc⟩, hr⟩
  have hT2 : Trn (Two p g3) w w1 := (Trn.of_fr hF).trans hT
  have hc2 : ∀ u, w.cell? ⟨p, 0, none⟩ = some u → w1.cell? ⟨p, 0, none⟩ = some u := fun u hu => hc u (hF.keeps.cell trivial hu)
  have b0' := b0.trn hT hn
  have hz1 := b0'.lt
  cases hx : rdNode bs f s with
  | error b =>
    rw [hx] at hr
    obtain ⟨at', rfl, h'⟩ := hr
    exact ⟨rfl, ⟨hT2, hc2⟩, at', rfl, h'⟩
  | ok r =>
    obtain ⟨x, s'⟩ := r
    have Hx := Lib.hid hx
    rw [hx] at hr
    obtain ⟨v, rfl, ⟨cs, rfl, hR⟩, hS'⟩ := hr
    obtain ⟨A, cap, rfl, -⟩ := hR.open
    have hT2' := Lib.hid hT2
    have hc2' := Lib.hid hc2
    have hR' := Lib.hid hR
    obtain ⟨f0, f1⟩ := b0'.rules
    clear hx hT hc hT2 hc2 hR ih
    go_wp2
    have b2 := (((b0'.set 0 (.int .i64 x.id)).set 1 (.int .i64 x.kind)).set 2 (.string x.text)).set 3 (.slice A x.kids.length cap)
    obtain ⟨q0, q1⟩ := b2.rules
    refine bodyPost_ret (v := .agg #[.int .i64 x.id, .int .i64 x.kind, .string x.text, .slice A x.kids.length cap]) (by simp [results, Try.results169, go_sem, q0]) rfl ?_
    refine ⟨⟨?_, ?_⟩, ?_⟩
    · exact (((hT2'.out.set (.inr (Nat.le_refl _)) _ _).set (.inr (Nat.le_refl _)) _ _).set (.inr (Nat.le_refl _)) _ _).set (.inr (Nat.le_refl _)) _ _
    · intro u hu
      have hk : Keeps (· = p) w1 ((((w1.setCell ⟨w.heap.size, 0, none⟩ (.int .i64 x.id)).setCell ⟨w.heap.size, 1, none⟩ (.int .i64 x.kind)).setCell ⟨w.heap.size, 2, none⟩ (.string x.text)).setCell ⟨w.heap.size, 3, none⟩ (.slice A x.kids.length cap)) :=
        ((((Keeps.refl _ w1).set (by omega) _ _).set (by omega) _ _).set (by omega) _ _).set (by omega) _ _
      exact hk.cell rfl (hc2'.out u hu)
    · rw [Hx.out]
      refine ⟨_, rfl, ⟨_, rfl, ?_⟩, ?_⟩
      · refine RN.mono (hR'.out.keep (((((Keeps.refl _ w1).set ?_ _ _).set ?_ _ _).set ?_ _ _).set ?_ _ _)) (fun k hk _ => by simp at hk ⊢; omega) <;> simp
      · exact (((hS'.far (by omega) (by omega) _ _).far (by omega) (by omega) _ _).far (by omega) (by omega) _ _).far (by omega) (by omega) _ _

set_option maxRecDepth 100000 in
set_option maxHeartbeats 2000000 in
theorem c168 (p B g1 g3 g4 gd : Nat) (bs : List Int) (f n : Nat) (s : Nat × Nat) (w : World) (hf : f ≤ 39) (hn : n ≤ 1000000)
    (ih : ∀ s w, NodeEnv w p B g1 g3 g4 → NodeSt w p B g3 bs s → Calls Try.prog 167 #[.int .i64 (41 - (f : Int)), .pointer (some ⟨g1, 0, none⟩), .pointer (some ⟨g3, 0, none⟩), .pointer (some ⟨g4, 0, none⟩)] w (NodeReads p B g3 bs (rdNode bs f s) NewNd w))
    (hE : NodeEnv w p B g1 g3 g4) (hS : NodeSt w p B g3 bs s) (hd : w.cell? ⟨gd, 0, none⟩ = some (.int .i64 (40 - (f : Int)))) (hd3 : gd ≠ g3) (hdp : gd ≠ p) :
    Calls Try.prog 168 #[.int .i64 n, .func (.func 169) #[] #[.pointer (some ⟨g4, 0, none⟩), .pointer (some ⟨gd, 0, none⟩)]] w (NodeReads p B g3 bs (rdList (rdNode bs f) n s) NewNds w) := by
  have hp := hS.1.low
  have h3 := hS.2.1.lt
  have HE := Lib.hid hE
  have HS := Lib.hid hS
  have Hd := Lib.hid hd
  have IH := Lib.hid ih
  clear hE hS hd ih
  go_enter Try.func168, Try.ntmps168
  go_wp2_with fail
  go_loopw [4, 6] (fun v i wr => ∃ (k : Nat) (xs : List Nd) (s1 : Nat × Nat), k ≤ n ∧ i = .int .i64 k ∧ Hid (rdList (rdNode bs f) k s = .ok (xs, s1)) ∧ Made elNd wr w.heap.size 25 (w.heap.size ≤ ·) v xs ∧ Trn (Two p g3) w wr ∧ Hid (∀ u, w.cell? ⟨p, 0, none⟩ = some u → wr.cell? ⟨p, 0, none⟩ = some u) ∧ NodeSt wr p B g3 bs s1)
    (fun _ i _ => n - (intOf i).toNat)
  case atStart => exact ⟨0, [], s, Nat.zero_le _, rfl, Lib.hid rfl, Made.nil _ _ _ _ _, Trn.refl _ _, Lib.hid fun u hu => hu, HS.out⟩
  case round =>
    obtain ⟨k, xs, s1, hk, rfl, Hl, hM, hT, Hc, hS1⟩ := hrel
    have hxl : xs.length = k := rdList_len Hl.out
    obtain ⟨A, cap, rfl, hcap⟩ := hM.sliceN hxl
    have hMl := hM.lt
    have HM := Lib.hid hM
    have HT := Lib.hid hT
    have Hxl := Lib.hid hxl
    clear hM hT hxl
    by_cases hlt : k < n
    · go_wp2_with fail
      refine (c169 p B g1 g3 g4 gd bs f s1 wr hf (IH.out s1) (HE.out.trn HT.out) hS1 (HT.out.keeps.cell (fun e => e.elim hdp hd3) Hd.out)).mono ?_
      rintro e w1 ⟨⟨hT1, hc1⟩, hr⟩
      have hT2 : Trn (Two p g3) w w1 := HT.out.trans hT1
      have Hc2 : Hid (∀ u, w.cell? ⟨p, 0, none⟩ = some u → w1.cell? ⟨p, 0, none⟩ = some u) := Lib.hid fun u hu => hc1 u (Hc.out u hu)
      cases hx : rdNode bs f s1 with
      | error b =>
        rw [hx] at hr
        obtain ⟨at', rfl, h'⟩ := hr
        refine ⟨rfl, ⟨hT2, Hc2.out⟩, ?_⟩
        rw [rdList_err Hl.out hx n hlt]
        exact ⟨at', rfl, h'⟩
      | ok r =>
        obtain ⟨x, s2⟩ := r
        have Hl2 := Lib.hid (rdList_next Hl.out hx)
        rw [hx] at hr
        obtain ⟨v, rfl, ⟨cs, rfl, hR⟩, hS2⟩ := hr
        obtain ⟨A', cap', rfl, -⟩ := hR.open
        have hbase := HT.out.size
        have hM1 := HM.out.keep (w' := w1) (hT1.keeps.weaken fun q hq hql => by
          have hq' : w.heap.size ≤ q := by
            rcases hq with hq | hq
            · exact hq
            · exact (hMl q hq).1
          intro e
          rcases e with e | e <;> omega)
        have hR1 : elNd.R w1 (fun q => w.heap.size ≤ q ∧ (Value.slice A k cap).ownBlock ≠ some q) x [.int .i64 x.id, .int .i64 x.kind, .string x.text, .slice A' x.kids.length cap'] :=
          RN.mono hR fun q hq _ => ⟨Nat.le_trans hbase hq, fun e => by have := hMl q e; omega⟩
        have hT3 := Lib.hid hT2
        have hz1 := hT1.size
        clear hT1 hc1 hx hT2 hR
        go_wp2_with (at_builtin; go_must (refine wpList_append_made elNd (W := w1) w.heap.size 23 25 _ 56 (w.heap.size ≤ ·) rfl (.tmp 8) (.tmp 11) rfl Try.underlying23 info25e rfl (.slice A k cap) xs x _ rfl rfl (by simp) hM1 hR1 ?c1 ?c2 ?c3 ?_))
        case c1 => omega
        case c2 => rw [Hxl.out]; unfold maxLen; omega
        case c3 => rw [Hxl.out]; omega
        intro v1 w2 hM2 hg2 hat2
        have hT4 := Lib.hid ((hT3.out.alloc (.cells #[.int .i64 x.id, .int .i64 x.kind, .string x.text, .slice A' x.kids.length cap'] 25)))
        have hbl : ∀ q, q < w1.heap.size → q < w.heap.size → w2.heap[q]? = w1.heap[q]? := fun q hq hq0 => hg2.block q hq (fun e => by have := hMl q e.symm; omega)
        have hT5 := Lib.hid (hT3.out.own hg2 (fun q hq => (hMl q hq).1))
        have hK2 : Keeps (· < w.heap.size) w1 w2 := fun q hq hql => hbl q hql hq
        have hS3 : NodeSt w2 p B g3 bs s2 := ⟨hS2.1.keepB (hK2.weaken fun q hq _ => by omega) hg2.size, hS2.2.1.keep hK2 h3, hS2.2.2⟩
        have Hc3 : Hid (∀ u, w.cell? ⟨p, 0, none⟩ = some u → w2.cell? ⟨p, 0, none⟩ = some u) := Lib.hid fun u hu => hK2.cell (by omega) (Hc2.out u hu)
        have HM3 := Lib.hid (hM2.mono (T' := (w.heap.size ≤ ·)) fun q hq _ => hq.1)
        clear hM2 hg2 hat2 hbl hK2 hM1 hR1
        go_wp2
        go_roundw
        case rel => exact ⟨k + 1, xs ++ [x], s2, by omega, by go_num, Hl2, HM3.out, hT5.out, Hc3, hS3⟩
        case measure => simp [intOf]; omega
    · obtain rfl : k = n := by omega
      go_wp2
      go_ret
      refine ⟨⟨HT.out, Hc.out⟩, ?_⟩
      rw [Hl.out]
      exact ⟨_, rfl, HM.out, hS1⟩
end Go.Proofs.Ytbhmpbaembmlnaa
