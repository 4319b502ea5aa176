/- code.Reader.node. -/
import Derived.Test.YtbhmpbaembmlnaaE5
import Derived.Test.YtbhmpbaembmlnaaR0
set_option linter.unusedVariables false
namespace Go.Proofs.Ytbhmpbaembmlnaa
open Go.RowKit

theorem RTrn.two {p g3 : Nat} {a b : World} (h : RTrn p a b) : Trn (Two p g3) a b := h.t.mono fun _ _ e => .inl e

/-- In the middle of a node: w the world at the call. -/
structure Mid (w : World) (p B g1 g3 g4 : Nat) (bs : List Int) (m : Nat) (depth : Int) (W : World) (a : Nat) (xs : List Value) : Prop where
  T : Trn (Two p g3) w W
  c : ∀ u, w.cell? ⟨p, 0, none⟩ = some u → W.cell? ⟨p, 0, none⟩ = some u
  E : NodeEnv W p B g1 g3 g4
  R : RdAt W p B bs a (-1)
  n : Blk W g3 [.int .i64 ((m : Int) + 1)] 3
  d : Blk W w.heap.size [.int .i64 depth] 3
  r : Blk W (w.heap.size + 1) [.int .i64 0, .int .i64 0, .string ⟨#[]⟩, .slice none 0 0] 25
  x : Blk W (w.heap.size + 1 + 1) xs 25
  pB : p < B
  Bz : B ≤ w.heap.size
  z1 : g1 < w.heap.size
  z3 : g3 < w.heap.size
  z4 : g4 < w.heap.size
  B3 : B ≤ g3

section
variable {w W W' : World} {p B g1 g3 g4 : Nat} {bs : List Int} {m a a' : Nat} {depth : Int} {xs : List Value}
theorem Mid.reads (h : Mid w p B g1 g3 g4 bs m depth W a xs) (hT : RTrn p W W') (hR : RdAt W' p B bs a' (-1)) : Mid w p B g1 g3 g4 bs m depth W' a' xs := by
  have := h.pB; have := h.Bz; have := h.z3; have := h.B3
  exact ⟨h.T.trans hT.two, fun u hu => hT.c u (h.c u hu), h.E.trn hT.two, hR, h.n.trn hT.t (by omega), h.d.trn hT.t (by omega), h.r.trn hT.t (by omega), h.x.trn hT.t (by omega), h.pB, h.Bz, h.z1, h.z3, h.z4, h.B3⟩
theorem Mid.drewN (h : Mid w p B g1 g3 g4 bs m depth W a xs) (n : Nat) : Mid w p B g1 g3 g4 bs m depth (W.drewN n) a xs :=
  ⟨h.T.drewN n, h.c, ⟨h.E.c1, h.E.c4, h.E.b1, h.E.b3, h.E.b4, h.E.n13, h.E.n43, h.E.pB⟩, h.R, h.n, h.d, h.r, h.x, h.pB, h.Bz, h.z1, h.z3, h.z4, h.B3⟩
theorem Mid.setx (h : Mid w p B g1 g3 g4 bs m depth W a xs) (j : Nat) (u : Value) : Mid w p B g1 g3 g4 bs m depth (W.setCell ⟨w.heap.size + 1 + 1, j, none⟩ u) a (xs.set j u) := by
  have := h.pB; have := h.Bz; have := h.z3; have := h.B3; have := h.z1; have := h.z4
  have hk : Keeps (· < w.heap.size) W (W.setCell ⟨w.heap.size + 1 + 1, j, none⟩ u) := (Keeps.refl _ W).set (by omega) j u
  exact ⟨h.T.set (.inr (by omega)) _ _, fun u hu => hk.cell (by omega) (h.c u hu), ⟨hk.cell (by omega) h.E.c1, hk.cell (by omega) h.E.c4, h.E.b1, h.E.b3, h.E.b4, h.E.n13, h.E.n43, h.E.pB⟩,
    h.R.setFar (by omega) _ _, h.n.far (by omega) _ _, h.d.far (by omega) _ _, h.r.far (by omega) _ _, h.x.set _ _, h.pB, h.Bz, h.z1, h.z3, h.z4, h.B3⟩
theorem Mid.rules (h : Mid w p B g1 g3 g4 bs m depth W a xs) : W.cell? ⟨g1, 0, none⟩ = some (.pointer (some ⟨p, 0, none⟩)) ∧ (∀ j, W.cell? ⟨w.heap.size + 1 + 1, j, none⟩ = xs[j]?) ∧ (∀ j, W.frozen? ⟨w.heap.size + 1 + 1, j, none⟩ = false) ∧ w.heap.size + 1 + 1 < W.heap.size :=
  ⟨h.E.c1, h.x.rules.1, h.x.rules.2, h.x.lt⟩
theorem Mid.bad {α : Type} {V : World → World → Value → α → Prop} {b at' : Nat} {r : Except Nat (α × (Nat × Nat))} (h : Mid w p B g1 g3 g4 bs m depth W a xs) (hT : RTrn p W W') (hR : RdAt W' p B bs at' (-1)) (hb : b ≤ bs.length) (hr : r = .error b) :
    NodeReads p B g3 bs r V w (.panicked [failed b]) W' := by
  subst hr
  exact ⟨⟨h.T.trans hT.two, fun u hu => hT.c u (h.c u hu)⟩, at', rfl, hR, hb⟩
end

set_option maxRecDepth 100000 in
set_option maxHeartbeats 4000000 in
theorem c167 (p B g1 g3 g4 : Nat) (bs : List Int) (f : Nat) : ∀ (s : Nat × Nat) (w : World), f ≤ 40 → NodeEnv w p B g1 g3 g4 → NodeSt w p B g3 bs s →
    Calls Try.prog 167 #[.int .i64 (41 - (f : Int)), .pointer (some ⟨g1, 0, none⟩), .pointer (some ⟨g3, 0, none⟩), .pointer (some ⟨g4, 0, none⟩)] w (NodeReads p B g3 bs (rdNode bs f s) NewNd w) := by
  induction f with
  | zero =>
    intro s w hf hE hS
    obtain ⟨a, m⟩ := s
    obtain ⟨A, cap, hb, hcap, hrow, h1, h2, hpB, hBz⟩ := hS.1
    have b3 := hS.2.1
    have hm := hS.2.2
    obtain ⟨f0, f1⟩ := hb.rules
    obtain ⟨q0, q1⟩ := b3.rules
    have c1 := hE.c1
    have hE1 := hE.b1
    have hE3 := hE.b3
    have hE13 := hE.n13
    have hE31 : g3 ≠ g1 := fun e => hE13 e.symm
    have hpl := hb.lt
    have hg1 : g1 < w.heap.size := cell_lt c1
    have hg3 := b3.lt
    have hp3 : p ≠ g3 := by omega
    have hp3' : g3 ≠ p := by omega
    simp only at hm f0 q0
    have hwm : IntKind.i64.wrap ((m : Int) + 1) = m + 1 := wrap_small _ (by omega) (by omega)
    have l1 : g1 < w.heap.size + 1 := by omega
    have l2 : g1 < w.heap.size + 1 + 1 := by omega
    have l3 : g3 < w.heap.size + 1 := by omega
    have l4 : g3 < w.heap.size + 1 + 1 := by omega
    have l5 : p < w.heap.size + 1 := by omega
    have l6 : p < w.heap.size + 1 + 1 := by omega
    have HS := Lib.hid hS
    clear hrow hE hS
    have hF : ∀ (o1 o2 : Obj), Fr (w.setCell ⟨g3, 0, none⟩ (.int .i64 ((m : Int) + 1))) (((w.setCell ⟨g3, 0, none⟩ (.int .i64 ((m : Int) + 1))).alloc o1).alloc o2) := fun o1 o2 => (Fr.new _ _).alloc _
    have hfin : ∀ (o1 o2 : Obj), NodeReads p B g3 bs (rdNode bs 0 (a, m)) NewNd w (.panicked [failed a]) (((w.setCell ⟨g3, 0, none⟩ (.int .i64 ((m : Int) + 1))).alloc o1).alloc o2) := fun o1 o2 =>
      ⟨⟨(((Trn.refl _ w).set (.inl (.inr rfl)) _ _).alloc _).alloc _, fun u hu => (hF o1 o2).keeps.cell trivial (((Keeps.refl (· = p) w).set (by omega) 0 _).cell rfl hu)⟩, a, rfl, (HS.out.1.setFar hE3 _ _).keep (hF o1 o2), h1⟩
    by_cases hbig : 200 < m + 1
    · have e1 : decide ((200 : Int) < (m : Int) + 1) = true := by simp; omega
      go_enter Try.func167, Try.ntmps167
      go_wp2
      exact ⟨rfl, hfin _ _⟩
    · have e1 : decide ((200 : Int) < (m : Int) + 1) = false := by simp; omega
      go_enter Try.func167, Try.ntmps167
      go_wp2
      exact ⟨rfl, hfin _ _⟩
  | succ f ih =>
    intro s w hf hE hS
    obtain ⟨a, m⟩ := s
    obtain ⟨A, cap, hb, hcap, hrow, h1, h2, hpB, hBz⟩ := hS.1
    have b3 := hS.2.1
    have hm := hS.2.2
    obtain ⟨f0, f1⟩ := hb.rules
    obtain ⟨q0, q1⟩ := b3.rules
    have c1 := hE.c1
    have hE1 := hE.b1
    have hE3 := hE.b3
    have hE13 := hE.n13
    have hE31 : g3 ≠ g1 := fun e => hE13 e.symm
    have hE4 := hE.b4
    have hE43 := hE.n43
    have hpl := hb.lt
    have hg1 : g1 < w.heap.size := cell_lt c1
    have hg3 := b3.lt
    have hg4 : g4 < w.heap.size := cell_lt hE.c4
    have hp3 : p ≠ g3 := by omega
    have hp3' : g3 ≠ p := by omega
    simp only at hm f0 q0
    have hwm : IntKind.i64.wrap ((m : Int) + 1) = m + 1 := wrap_small _ (by omega) (by omega)
    have l1 : g1 < w.heap.size + 1 := by omega
    have l2 : g1 < w.heap.size + 1 + 1 := by omega
    have l3 : g3 < w.heap.size + 1 := by omega
    have l4 : g3 < w.heap.size + 1 + 1 := by omega
    have l5 : p < w.heap.size + 1 := by omega
    have l6 : p < w.heap.size + 1 + 1 := by omega
    have HE := Lib.hid hE
    have HS := Lib.hid hS
    clear hrow hE hS
    by_cases hbig : 200 < m + 1
    · have e1 : decide ((200 : Int) < (m : Int) + 1) = true := by simp; omega
      have hF : ∀ (o1 o2 : Obj), Fr (w.setCell ⟨g3, 0, none⟩ (.int .i64 ((m : Int) + 1))) (((w.setCell ⟨g3, 0, none⟩ (.int .i64 ((m : Int) + 1))).alloc o1).alloc o2) := fun o1 o2 => (Fr.new _ _).alloc _
      have hfin : ∀ (o1 o2 : Obj), NodeReads p B g3 bs (rdNode bs (f + 1) (a, m)) NewNd w (.panicked [failed a]) (((w.setCell ⟨g3, 0, none⟩ (.int .i64 ((m : Int) + 1))).alloc o1).alloc o2) := fun o1 o2 => by
        refine ⟨⟨(((Trn.refl _ w).set (.inl (.inr rfl)) _ _).alloc _).alloc _, fun u hu => (hF o1 o2).keeps.cell trivial (((Keeps.refl (· = p) w).set (by omega) 0 _).cell rfl hu)⟩, ?_⟩
        rw [show rdNode bs (f + 1) (a, m) = .error a by simp [rdNode, hbig]]
        exact ⟨a, rfl, (HS.out.1.setFar hE3 _ _).keep (hF o1 o2), h1⟩
      go_enter Try.func167, Try.ntmps167
      go_wp2
      exact ⟨rfl, hfin _ _⟩
    · have e1 : decide ((200 : Int) < (m : Int) + 1) = false := by simp; omega
      have e2 : decide ((40 : Int) < 41 - ((f : Int) + 1)) = false := by simp; omega
      have hw0 : (w.setCell ⟨g3, 0, none⟩ (.int .i64 ((m : Int) + 1))).heap.size = w.heap.size := size_set _ _ _
      have hT0 : Trn (Two p g3) w ((((w.setCell ⟨g3, 0, none⟩ (.int .i64 ((m : Int) + 1))).alloc (.cells #[.int .i64 (41 - ((f : Int) + 1))] 3)).alloc (.cells #[.int .i64 0, .int .i64 0, .string ⟨#[]⟩, .slice none 0 0] 25)).alloc (.cells #[.int .i64 0, .int .i64 0, .string ⟨#[]⟩, .slice none 0 0] 25)) :=
        ((((Trn.refl _ w).set (.inl (.inr rfl)) _ _).alloc _).alloc _).alloc _
      have hM0 : Mid w p B g1 g3 g4 bs m (41 - ((f : Int) + 1)) ((((w.setCell ⟨g3, 0, none⟩ (.int .i64 ((m : Int) + 1))).alloc (.cells #[.int .i64 (41 - ((f : Int) + 1))] 3)).alloc (.cells #[.int .i64 0, .int .i64 0, .string ⟨#[]⟩, .slice none 0 0] 25)).alloc (.cells #[.int .i64 0, .int .i64 0, .string ⟨#[]⟩, .slice none 0 0] 25)) a
          [.int .i64 0, .int .i64 0, .string ⟨#[]⟩, .slice none 0 0] := by
        have hF : Fr (w.setCell ⟨g3, 0, none⟩ (.int .i64 ((m : Int) + 1))) ((((w.setCell ⟨g3, 0, none⟩ (.int .i64 ((m : Int) + 1))).alloc (.cells #[.int .i64 (41 - ((f : Int) + 1))] 3)).alloc (.cells #[.int .i64 0, .int .i64 0, .string ⟨#[]⟩, .slice none 0 0] 25)).alloc (.cells #[.int .i64 0, .int .i64 0, .string ⟨#[]⟩, .slice none 0 0] 25)) := ((Fr.new _ _).alloc _).alloc _
        have bd := ((Blk.new (w.setCell ⟨g3, 0, none⟩ (.int .i64 ((m : Int) + 1))) [.int .i64 (41 - ((f : Int) + 1))] 3).alloc (.cells #[.int .i64 0, .int .i64 0, .string ⟨#[]⟩, .slice none 0 0] 25)).alloc (.cells #[.int .i64 0, .int .i64 0, .string ⟨#[]⟩, .slice none 0 0] 25)
        have br := (Blk.new ((w.setCell ⟨g3, 0, none⟩ (.int .i64 ((m : Int) + 1))).alloc (.cells #[.int .i64 (41 - ((f : Int) + 1))] 3)) [.int .i64 0, .int .i64 0, .string ⟨#[]⟩, .slice none 0 0] 25).alloc (.cells #[.int .i64 0, .int .i64 0, .string ⟨#[]⟩, .slice none 0 0] 25)
        have bx := Blk.new (((w.setCell ⟨g3, 0, none⟩ (.int .i64 ((m : Int) + 1))).alloc (.cells #[.int .i64 (41 - ((f : Int) + 1))] 3)).alloc (.cells #[.int .i64 0, .int .i64 0, .string ⟨#[]⟩, .slice none 0 0] 25)) [.int .i64 0, .int .i64 0, .string ⟨#[]⟩, .slice none 0 0] 25
        simp only [World.size_alloc, hw0] at bd br bx
        exact ⟨hT0, fun u hu => hF.keeps.cell trivial (((Keeps.refl (· = p) w).set (by omega) 0 _).cell rfl hu), HE.out.trn hT0, (HS.out.1.setFar hE3 _ _).keep hF, (b3.set 0 _).later hF, bd, br, bx, hpB, hBz, hg1, hg3, hg4, hE3⟩
      have HM := Lib.hid hM0
      have HA : Hid (w.cell? ⟨p, 0, none⟩ = some (.slice A bs.length cap)) := Lib.hid (by simpa using f0 0)
      clear hM0 hT0 hw0 b3 hb
      go_enter Try.func167, Try.ntmps167
      go_wp2_with fail
      refine (cNumber p B bs a _ HM.out.R).mono ?_
      rintro e w1 ⟨hT, hr⟩
      cases hn1 : rdNum bs a with
      | error b =>
        rw [hn1] at hr
        obtain ⟨at', rfl, h', hbl⟩ := hr
        exact ⟨rfl, HM.out.bad hT h' hbl (by simp [rdNode, hbig, hn1])⟩
      | ok r =>
      obtain ⟨id, a1⟩ := r
      rw [hn1] at hr
      obtain ⟨v, rfl, ⟨rfl, hwf1⟩, h'⟩ := hr
      have HM1 := Lib.hid (HM.out.reads hT h')
      have Hn1 := Lib.hid hn1
      clear hT h' hn1 c1 q0 q1 f0 f1
      obtain ⟨r1, r2, r3, r4⟩ := HM1.out.rules
      go_wp2_with fail
      have HM2 := Lib.hid (HM1.out.setx 0 (.int .i64 id))
      refine (cNumber p B bs a1 _ HM2.out.R).mono ?_
      rintro e w2 ⟨hT, hr⟩
      cases hn2 : rdNum bs a1 with
      | error b =>
        rw [hn2] at hr
        obtain ⟨at', rfl, h', hbl⟩ := hr
        exact ⟨rfl, HM2.out.bad hT h' hbl (by simp [rdNode, hbig, Hn1.out, hn2])⟩
      | ok r =>
      obtain ⟨kind, a2⟩ := r
      rw [hn2] at hr
      obtain ⟨v, rfl, ⟨rfl, hwf2⟩, h'⟩ := hr
      have HM3 := Lib.hid (HM2.out.reads hT h')
      have Hn2 := Lib.hid hn2
      clear hT h' hn2 r1 r2 r3 r4
      obtain ⟨r1, r2, r3, r4⟩ := HM3.out.rules
      go_wp2_with fail
      have HM4 := Lib.hid (HM3.out.setx 1 (.int .i64 kind))
      refine (cText p B bs a2 _ HM4.out.R).mono ?_
      rintro e w3 ⟨hT, hr⟩
      cases hn3 : rdText bs a2 with
      | error b =>
        rw [hn3] at hr
        obtain ⟨at', rfl, h', hbl⟩ := hr
        exact ⟨rfl, HM4.out.bad hT h' hbl (by simp [rdNode, hbig, Hn1.out, Hn2.out, hn3])⟩
      | ok r =>
      obtain ⟨text, a3⟩ := r
      rw [hn3] at hr
      obtain ⟨v, rfl, ⟨rfl, hts⟩, h'⟩ := hr
      have HM5 := Lib.hid (HM4.out.reads hT h')
      have Hn3 := Lib.hid hn3
      clear hT h' hn3 r1 r2 r3 r4
      obtain ⟨r1, r2, r3, r4⟩ := HM5.out.rules
      go_wp2_with fail
      have HM6 := Lib.hid (HM5.out.setx 2 (.string text))
      have hA := HM5.out.c _ HA.out
      obtain ⟨W6, hW6⟩ : ∃ W6, W6 = w3.setCell ⟨w.heap.size + 1 + 1, 2, none⟩ (.string text) := ⟨_, rfl⟩
      rw [← hW6] at HM6 ⊢
      clear hW6 r1 r2 r3 r4
      obtain ⟨r1, r2, r3, r4⟩ := HM6.out.rules
      have hA := HM6.out.c _ HA.out
      have hS : ∀ W', (Trn (fun k => k = p ∨ k = g3 ∨ k = w.heap.size + 1 + 1) W6 W' ∧ ∀ u, W6.cell? ⟨p, 0, none⟩ = some u → W'.cell? ⟨p, 0, none⟩ = some u) →
          W'.cell? ⟨g1, 0, none⟩ = some (.pointer (some ⟨p, 0, none⟩)) ∧ W'.cell? ⟨p, 0, none⟩ = some (.slice A bs.length cap) := fun W' h =>
        ⟨h.1.keeps.cell (by intro e; omega) r1, h.2 _ hA⟩
      have HSS := Lib.hid hS
      clear hS
      refine wp_region_plan [(true, 0), (true, 1), (true, 2), (true, 3), (true, 4), (true, 5), (true, 7), (false, 6), (false, 8), (true, 9), (false, 10)] (fun W' => Trn (fun k => k = p ∨ k = g3 ∨ k = w.heap.size + 1 + 1) W6 W' ∧ ∀ u, W6.cell? ⟨p, 0, none⟩ = some u → W'.cell? ⟨p, 0, none⟩ = some u) (by kernel_rfl) (by kernel_rfl) (by kernel_rfl) (by kernel_rfl) (fun _ _ d _ _ h => by cases d <;> exact h) ⟨(Trn.refl _ _).drewN 1, fun u hu => hu⟩ ?_
      simp only [planOps, List.getElem?_toArray, List.getElem?_cons_zero, List.getElem?_cons_succ]
      repeat (first
        | (refine wpSeqH_skip rfl ?_; simp only [Act.put, List.setIfInBounds_toArray, List.set_cons_zero, List.set_cons_succ])
        | (refine wpSeqH_take (v := ?_) rfl (fun w' hw' => ?_) ?_; rotate_left; (obtain ⟨q1, q2⟩ := HSS.out _ hw'; go_simp; with_reducible rfl); simp only [Act.put, List.setIfInBounds_toArray, List.set_cons_zero, List.set_cons_succ]))
      refine wpSeqH_run rfl (fun K hK => ?_)
      have IH := Lib.hid ih
      clear ih
      go_wp2_with fail
      have HM6' := Lib.hid (HM6.out.drewN 1)
      refine (cCount p B bs 32 bs.length a3 _ HM6'.out.R).mono ?_
      rintro e w4 ⟨hT, hr⟩
      cases hn4 : rdCount bs 32 bs.length a3 with
      | error b =>
        rw [hn4] at hr
        obtain ⟨at', rfl, h', hbl⟩ := hr
        exact ⟨rfl, HM6'.out.bad hT h' hbl (by simp [rdNode, hbig, Hn1.out, Hn2.out, Hn3.out, hn4])⟩
      | ok r =>
      obtain ⟨n, a4⟩ := r
      rw [hn4] at hr
      obtain ⟨v, rfl, ⟨rfl, hwfn⟩, h'⟩ := hr
      have ha4 : a4 ≤ bs.length := by obtain ⟨_, _, _, _, _, h, _⟩ := h'; exact h
      obtain ⟨n0, n1, n2⟩ := rdCount_ok hn4 ha4
      obtain ⟨k, rfl⟩ : ∃ k : Nat, n = k := ⟨n.toNat, by omega⟩
      have hk6 : k ≤ 1000000 := by omega
      have HM7 := Lib.hid (HM6'.out.reads hT h')
      have Hn4 := Lib.hid hn4
      have hT67 : Trn (fun k => k = p ∨ k = g3 ∨ k = w.heap.size + 1 + 1) W6 w4 ∧ ∀ u, W6.cell? ⟨p, 0, none⟩ = some u → w4.cell? ⟨p, 0, none⟩ = some u := ⟨(((Trn.refl _ _).drewN 1).trans (hT.t.mono fun _ _ e => .inl e)), fun u hu => hT.c u hu⟩
      have HT67 := Lib.hid hT67
      clear hT h' hn4 n1 n2 hwfn
      go_wp2_with fail
      refine hK.out _ _ HT67.out ?_
      clear hK K
      try simp only [Act.put, List.setIfInBounds_toArray, List.set_cons_zero, List.set_cons_succ]
      refine wpSeqH_run rfl (fun K hK => ?_)
      go_wp2_with fail
      have hd7 := HM7.out.d.rules.1 0
      simp only [List.getElem?_cons_zero] at hd7
      refine (c168 p B g1 g3 g4 w.heap.size bs f k (a4, m + 1) w4 (by omega) hk6 (fun s w => IH.out s w (by omega)) HM7.out.E ⟨HM7.out.R, HM7.out.n, by simp only; omega⟩ (by rw [hd7]; congr 2; omega) (by omega) (by omega)).mono ?_
      rintro e w5 ⟨⟨hT, hc⟩, hr⟩
      have hT5 : Trn (Two p g3) w w5 := HM7.out.T.trans hT
      have hc5 : ∀ u, w.cell? ⟨p, 0, none⟩ = some u → w5.cell? ⟨p, 0, none⟩ = some u := fun u hu => hc u (HM7.out.c u hu)
      cases hn5 : rdList (rdNode bs f) k (a4, m + 1) with
      | error b =>
        rw [hn5] at hr
        obtain ⟨at', rfl, h', hbl⟩ := hr
        refine ⟨rfl, ⟨hT5, hc5⟩, ?_⟩
        rw [show rdNode bs (f + 1) (a, m) = .error b by simp [rdNode, hbig, Hn1.out, Hn2.out, Hn3.out, Hn4.out, hn5]]
        exact ⟨at', rfl, h', hbl⟩
      | ok r =>
      obtain ⟨kids, s5⟩ := r
      rw [hn5] at hr
      obtain ⟨v, rfl, hM, hS5⟩ := hr
      have Hrd : Hid (rdNode bs (f + 1) (a, m) = .ok (⟨id, kind, text, kids⟩, s5)) := Lib.hid (by simp [rdNode, hbig, Hn1.out, Hn2.out, Hn3.out, Hn4.out, hn5])
      have Hkl := Lib.hid (rdList_len hn5)
      have hM' : Made elNd w5 w4.heap.size 25 (w4.heap.size ≤ ·) v kids := hM
      obtain ⟨A5, cap5, rfl, hcap5⟩ := hM'.slice
      have hb7 := HM7.out.x.lt
      have hX5 := HM7.out.x.trn hT (by intro e; rcases e with e | e <;> omega)
      have hR5 := HM7.out.r.trn hT (by intro e; rcases e with e | e <;> omega)
      have hRow : Row elNd w5 (w4.heap.size ≤ ·) A5 kids := by
        obtain ⟨A', cap', hA', -, hrow⟩ := hM'.reads
        injection hA' with q1 q2 q3
        subst q1
        exact hrow.mono fun q hq _ => by
          rcases hq with hq | hq
          · exact hq
          · exact (hM'.lt q hq).1
      have HRow := Lib.hid hRow
      have HT5 := Lib.hid hT5
      have Hc5 := Lib.hid hc5
      have HS5 := Lib.hid hS5
      have HX5 := Lib.hid hX5
      have HR5 := Lib.hid hR5
      have HT57 : Hid ((Trn (fun k => k = p ∨ k = g3 ∨ k = w.heap.size + 1 + 1) W6 w5) ∧ ∀ u, W6.cell? ⟨p, 0, none⟩ = some u → w5.cell? ⟨p, 0, none⟩ = some u) := Lib.hid ⟨HT67.out.1.trans (hT.mono fun i _ e => e.elim .inl fun e => .inr (.inl e)), fun u hu => hc u (HT67.out.2 u hu)⟩
      clear hT hc hT5 hc5 hn5 hM hM' hS5 hX5 hR5 hRow hd7 r1 r2 r3 hA
      go_wp2_with fail
      refine hK.out _ _ HT57.out ?_
      clear hK K
      try simp only [Act.put, List.setIfInBounds_toArray, List.set_cons_zero, List.set_cons_succ]
      repeat (first
        | (refine wpSeqH_skip rfl ?_; simp only [Act.put, List.setIfInBounds_toArray, List.set_cons_zero, List.set_cons_succ])
        | (refine wpSeqH_take (v := ?_) rfl (fun w' hw' => ?_) ?_; rotate_left; (obtain ⟨q1, q2⟩ := HSS.out _ hw'; go_simp; with_reducible rfl); simp only [Act.put, List.setIfInBounds_toArray, List.set_cons_zero, List.set_cons_succ]))
      refine wpSeqH_run rfl (fun K hK => ?_)
      obtain ⟨r1, r2⟩ := HX5.out.rules
      have r3 := HX5.out.lt
      go_wp2_with fail
      refine hK.out _ _ ⟨HT57.out.1.set (.inl (.inr (.inr rfl))) _ _, fun u hu => ((Keeps.refl (· = p) w5).set (by omega) 3 _).cell rfl (HT57.out.2 u hu)⟩ ?_
      clear hK K
      refine wpSeqH_done ?_
      have HX6 := Lib.hid (HX5.out.set 3 (.slice A5 kids.length cap5))
      have HR6 := Lib.hid (HR5.out.far (g' := w.heap.size + 1 + 1) (by omega) 3 (.slice A5 kids.length cap5))
      clear r1 r2
      obtain ⟨r1, r2⟩ := HX6.out.rules
      obtain ⟨q1, q2⟩ := HR6.out.rules
      have q3 := HR6.out.lt
      rw [size_set] at q3
      go_wp2
      have HR7 := (((HR6.out.set 0 (.int .i64 id)).set 1 (.int .i64 kind)).set 2 (.string text)).set 3 (.slice A5 kids.length cap5)
      obtain ⟨y1, y2⟩ := HR7.rules
      refine bodyPost_ret (v := .agg #[.int .i64 id, .int .i64 kind, .string text, .slice A5 kids.length cap5]) (by simp [results, Try.results167, go_sem, y1]) rfl ?_
      have hz5 := HT5.out.size
      have hlow : ∀ (S : Nat → Prop), (∀ k, S k → k ≠ w.heap.size + 1 ∧ k ≠ w.heap.size + 1 + 1) → Keeps S w5 (((((w5.setCell ⟨w.heap.size + 1 + 1, 3, none⟩ (.slice A5 kids.length cap5)).setCell ⟨w.heap.size + 1, 0, none⟩ (.int .i64 id)).setCell ⟨w.heap.size + 1, 1, none⟩ (.int .i64 kind)).setCell ⟨w.heap.size + 1, 2, none⟩ (.string text)).setCell ⟨w.heap.size + 1, 3, none⟩ (.slice A5 kids.length cap5)) :=
        fun S hS => (((((Keeps.refl S w5).set (fun h => (hS _ h).2 rfl) 3 _).set (fun h => (hS _ h).1 rfl) 0 _).set (fun h => (hS _ h).1 rfl) 1 _).set (fun h => (hS _ h).1 rfl) 2 _).set (fun h => (hS _ h).1 rfl) 3 _
      refine ⟨⟨?_, fun u hu => (hlow (· = p) (fun k hk => by omega)).cell rfl (Hc5.out u hu)⟩, ?_⟩
      · exact ((((HT5.out.set (.inr (by omega)) _ _).set (.inr (by omega)) _ _).set (.inr (by omega)) _ _).set (.inr (by omega)) _ _).set (.inr (by omega)) _ _
      · rw [Hrd.out]
        refine ⟨_, rfl, ⟨_, rfl, ?_⟩, ?_⟩
        · have hrow := Row.keep HRow.out (hlow (w4.heap.size ≤ ·) (fun k hk => by omega)) (by simp only [size_set]; exact Nat.le_refl _)
          exact RN.mono (RN.close (t := ⟨id, kind, text, kids⟩) hcap5 (by rw [show kids.length = k from Hkl.out]; unfold kidsMax; omega) hrow hwf1 hwf2 hts) (fun k (hk : w4.heap.size ≤ k) _ => (by omega : w.heap.size ≤ k))
        · exact ((((HS5.out.far (by omega) (by omega) _ _).far (by omega) (by omega) _ _).far (by omega) (by omega) _ _).far (by omega) (by omega) _ _).far (by omega) (by omega) _ _
end Go.Proofs.Ytbhmpbaembmlnaa
