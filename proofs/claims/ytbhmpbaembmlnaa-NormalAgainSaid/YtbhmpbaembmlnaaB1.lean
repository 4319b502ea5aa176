/- normal.rules, normal.Pair. -/
import Derived.Test.YtbhmpbaembmlnaaB0
set_option linter.unusedVariables false
namespace Go.Proofs.Ytbhmpbaembmlnaa
open Go.RowKit

theorem r153 (op : Int) (w : World) : Calls Try.prog 153 #[.int .i8 op] w fun e w' => e = .returned (.func (.func 154) #[] #[.pointer (some ⟨w.heap.size, 0, none⟩)]) ∧ w' = w.alloc (.cells #[.int .i8 op] 22) := by
  go_enter Try.func153, Try.ntmps153
  go_wp2
  go_ret
  exact ⟨rfl, rfl⟩

def RulesAt (w : World) (v : Value) : Prop :=
  ∃ g g1 g2, v = .slice (some ⟨g, 0, none⟩) 4 4 ∧ Blk w g [.func (.func 154) #[] #[.pointer (some ⟨g1, 0, none⟩)], .func (.func 154) #[] #[.pointer (some ⟨g2, 0, none⟩)], .func (.func 156) #[] #[], .func (.func 157) #[] #[]] 110 ∧
    w.cell? ⟨g1, 0, none⟩ = some (.int .i8 4) ∧ w.cell? ⟨g2, 0, none⟩ = some (.int .i8 3)

theorem nRules (w : World) : Calls Try.prog 92 #[] w fun e w' => ∃ v, e = .returned v ∧ RulesAt w' v ∧ Fr w w' := by
  go_enter Try.func92, Try.ntmps92
  go_wp2_with fail
  refine (r153 4 _).mono ?_
  rintro e w1 ⟨rfl, rfl⟩
  go_wp2_with fail
  refine (r153 3 _).mono ?_
  rintro e w1 ⟨rfl, rfl⟩
  go_wp2_with fail
  go_ret
  refine ⟨_, rfl, ⟨w.heap.size + 1 + 1, w.heap.size, w.heap.size + 1, rfl, ?_, ?_, ?_⟩, ((Fr.new w _).alloc _).alloc _⟩
  · have := Blk.new ((w.alloc (.cells #[.int .i8 4] 22)).alloc (.cells #[.int .i8 3] 22)) [.func (.func 154) #[] #[.pointer (some ⟨w.heap.size, 0, none⟩)], .func (.func 154) #[] #[.pointer (some ⟨w.heap.size + 1, 0, none⟩)], .func (.func 156) #[] #[], .func (.func 157) #[] #[]] 110
    simpa only [World.size_alloc] using this
  · have := ((Blk.new w [.int .i8 4] 22).alloc (.cells #[.int .i8 3] 22)).alloc (.cells #[.func (.func 154) #[] #[.pointer (some ⟨w.heap.size, 0, none⟩)], .func (.func 154) #[] #[.pointer (some ⟨w.heap.size + 1, 0, none⟩)], .func (.func 156) #[] #[], .func (.func 157) #[] #[]] 110)
    exact (this.cell 0).trans rfl
  · have := (Blk.new (w.alloc (.cells #[.int .i8 4] 22)) [.int .i8 3] 22).alloc (.cells #[.func (.func 154) #[] #[.pointer (some ⟨w.heap.size, 0, none⟩)], .func (.func 154) #[] #[.pointer (some ⟨w.heap.size + 1, 0, none⟩)], .func (.func 156) #[] #[], .func (.func 157) #[] #[]] 110)
    rw [World.size_alloc] at this
    exact (this.cell 0).trans rfl

def ruleNo (a b : Stp) : Nat → Option (List Stp)
  | 0 => rule1 4 a b
  | 1 => rule1 3 a b
  | 2 => rule3 a b
  | _ => rule4 a b

/-- What two neighbours become. -/
def pairS (a b : Stp) : Option (List Stp) := (rule1 4 a b).or ((rule1 3 a b).or ((rule3 a b).or (rule4 a b)))

theorem pairS_some {a b : Stp} {k : Nat} {l : List Stp} (hk : k < 4) (h : ∀ j, j < k → ruleNo a b j = none) (hl : ruleNo a b k = some l) : pairS a b = some l := by
  unfold pairS
  match k, hk with
  | 0, _ => simp only [ruleNo] at hl; rw [hl]; rfl
  | 1, _ => have h0 := h 0 (by omega); simp only [ruleNo] at hl h0; rw [h0, hl]; rfl
  | 2, _ => have h0 := h 0 (by omega); have h1 := h 1 (by omega); simp only [ruleNo] at hl h0 h1; rw [h0, h1, hl]; rfl
  | 3, _ => have h0 := h 0 (by omega); have h1 := h 1 (by omega); have h2 := h 2 (by omega); simp only [ruleNo] at hl h0 h1 h2; rw [h0, h1, h2, hl]; rfl
theorem pairS_none {a b : Stp} (h : ∀ j, j < 4 → ruleNo a b j = none) : pairS a b = none := by
  have h0 := h 0 (by omega); have h1 := h 1 (by omega); have h2 := h 2 (by omega); have h3 := h 3 (by omega)
  simp only [ruleNo] at h0 h1 h2 h3
  unfold pairS; rw [h0, h1, h2, h3]; rfl

def Paired (r : Option (List Stp)) (w : World) (e : Ending) (w' : World) : Prop :=
  match r with
  | none => e = .returned (.tuple #[.slice none 0 0, .bool false]) ∧ Fr w w'
  | some l => ∃ v, e = .returned (.tuple #[v, .bool true]) ∧ Sl elStp w' (fun k => w.heap.size ≤ k) v l ∧ Fr w w'

set_option maxRecDepth 100000 in
set_option maxHeartbeats 4000000 in
theorem nPair (a b : Stp) (ca cb : List Value) (w : World) (ha : RP w a ca) (hb : RP w b cb) :
    Calls Try.prog 20 #[.agg ca.toArray, .agg cb.toArray] w (Paired (pairS a b) w) := by
  obtain ⟨A, cap, rfl, has⟩ := ha.open
  obtain ⟨B, capB, rfl, hbs⟩ := hb.open
  go_enter Try.func20, Try.ntmps20
  go_wp2_with fail
  refine (nRules _).mono ?_
  rintro e w1 ⟨v, rfl, hR, hf⟩
  have b0 := ((Blk.new w (stpCells a A cap) 27).alloc (.cells (stpCells b B capB).toArray 27)).later hf
  have b1 := (Blk.new (w.alloc (.cells (stpCells a A cap).toArray 27)) (stpCells b B capB) 27).later hf
  rw [World.size_alloc] at b1
  have hF : Fr w w1 := ((Fr.new w _).alloc _).trans hf
  obtain ⟨g, g1, g2, rfl, hg, hg1, hg2⟩ := hR
  have HF := Lib.hid hF
  clear hf hF
  go_wp2_with fail
  go_loopw [12] (fun i wr => ∃ k : Nat, k ≤ 4 ∧ i = .int .i64 k ∧ Hid (∀ j, j < k → ruleNo a b j = none) ∧ Fr w1 wr) (fun i _ => 4 - (intOf i).toNat)
  case atStart => exact ⟨0, by omega, rfl, Lib.hid (fun j h => absurd h (by omega)), Fr.refl _⟩
  case round =>
    obtain ⟨k, hk, rfl, Hno, hw⟩ := hrel
    have hgw := hg.later hw
    obtain ⟨f0, f1⟩ := (b0.later hw).rules
    obtain ⟨f2, f3⟩ := (b1.later hw).rules
    obtain ⟨f4, f5⟩ := hgw.rules
    have hg1w := (hw.rules.1 g1 0 (cell_lt hg1)).trans hg1
    have hg2w := (hw.rules.1 g2 0 (cell_lt hg2)).trans hg2
    have ha' := ha.later (HF.out.trans hw)
    have hb' := hb.later (HF.out.trans hw)
    have hRk : k < 4 → ∃ args, True := fun _ => ⟨0, trivial⟩
    clear hg hg1 hg2 hRk
    match k, hk with
    | 4, _ =>
      have Hn := Lib.hid (pairS_none Hno.out)
      go_wp2
      go_ret2
      unfold Paired
      rw [Hn.out]
      exact ⟨rfl, HF.out.trans hw⟩
    | 0, _ =>
      go_wp2_with fail
      refine (r154 4 a b _ _ g1 _ ha' hb' hg1w).mono ?_
      rintro e w2 ⟨v2, b2, rfl, hfr, hm⟩
      cases hx : rule1 4 a b with
      | none =>
        simp only [hx] at hm
        subst hm
        have Hx := Lib.hid hx; clear hx
        go_wp2
        go_roundw
        case rel =>
          refine ⟨1, by omega, by first | rfl | go_num, Lib.hid fun j hj => ?_, hw.trans hfr⟩
          by_cases hjk : j = 0
          · subst hjk; exact Hx.out
          · exact Hno.out j (by omega)
        case measure => simp [intOf]
      | some l =>
        simp only [hx] at hm
        obtain ⟨rfl, hsl⟩ := hm
        have Hl := Lib.hid (pairS_some (k := 0) (by omega) Hno.out hx); clear hx
        obtain ⟨A2, cap2, rfl, hc2, hr2⟩ := hsl
        have Hs := Lib.hid (show Sl elStp w2 (fun k => w.heap.size ≤ k) (.slice A2 l.length cap2) l from ⟨A2, cap2, rfl, hc2, hr2.mono fun k hk _ => Nat.le_trans (HF.out.trans hw).size hk⟩)
        clear hr2
        go_wp2
        go_ret2
        unfold Paired
        rw [Hl.out]
        exact ⟨_, rfl, Hs.out, HF.out.trans (hw.trans hfr)⟩
    | 1, _ =>
      go_wp2_with fail
      refine (r154 3 a b _ _ g2 _ ha' hb' hg2w).mono ?_
      rintro e w2 ⟨v2, b2, rfl, hfr, hm⟩
      cases hx : rule1 3 a b with
      | none =>
        simp only [hx] at hm
        subst hm
        have Hx := Lib.hid hx; clear hx
        go_wp2
        go_roundw
        case rel =>
          refine ⟨2, by omega, by first | rfl | go_num, Lib.hid fun j hj => ?_, hw.trans hfr⟩
          by_cases hjk : j = 1
          · subst hjk; exact Hx.out
          · exact Hno.out j (by omega)
        case measure => simp [intOf]
      | some l =>
        simp only [hx] at hm
        obtain ⟨rfl, hsl⟩ := hm
        have Hl := Lib.hid (pairS_some (k := 1) (by omega) Hno.out hx); clear hx
        obtain ⟨A2, cap2, rfl, hc2, hr2⟩ := hsl
        have Hs := Lib.hid (show Sl elStp w2 (fun k => w.heap.size ≤ k) (.slice A2 l.length cap2) l from ⟨A2, cap2, rfl, hc2, hr2.mono fun k hk _ => Nat.le_trans (HF.out.trans hw).size hk⟩)
        clear hr2
        go_wp2
        go_ret2
        unfold Paired
        rw [Hl.out]
        exact ⟨_, rfl, Hs.out, HF.out.trans (hw.trans hfr)⟩
    | 2, _ =>
      go_wp2_with fail
      refine (r156 a b _ _ _ ha' hb').mono ?_
      rintro e w2 ⟨v2, b2, rfl, hfr, hm⟩
      cases hx : rule3 a b with
      | none =>
        simp only [hx] at hm
        subst hm
        have Hx := Lib.hid hx; clear hx
        go_wp2
        go_roundw
        case rel =>
          refine ⟨3, by omega, by first | rfl | go_num, Lib.hid fun j hj => ?_, hw.trans hfr⟩
          by_cases hjk : j = 2
          · subst hjk; exact Hx.out
          · exact Hno.out j (by omega)
        case measure => simp [intOf]
      | some l =>
        simp only [hx] at hm
        obtain ⟨rfl, hsl⟩ := hm
        have Hl := Lib.hid (pairS_some (k := 2) (by omega) Hno.out hx); clear hx
        obtain ⟨A2, cap2, rfl, hc2, hr2⟩ := hsl
        have Hs := Lib.hid (show Sl elStp w2 (fun k => w.heap.size ≤ k) (.slice A2 l.length cap2) l from ⟨A2, cap2, rfl, hc2, hr2.mono fun k hk _ => Nat.le_trans (HF.out.trans hw).size hk⟩)
        clear hr2
        go_wp2
        go_ret2
        unfold Paired
        rw [Hl.out]
        exact ⟨_, rfl, Hs.out, HF.out.trans (hw.trans hfr)⟩
    | 3, _ =>
      go_wp2_with fail
      refine (r157 a b _ _ _ ha' hb').mono ?_
      rintro e w2 ⟨v2, b2, rfl, hfr, hm⟩
      cases hx : rule4 a b with
      | none =>
        simp only [hx] at hm
        subst hm
        have Hx := Lib.hid hx; clear hx
        go_wp2
        go_roundw
        case rel =>
          refine ⟨4, by omega, by first | rfl | go_num, Lib.hid fun j hj => ?_, hw.trans hfr⟩
          by_cases hjk : j = 3
          · subst hjk; exact Hx.out
          · exact Hno.out j (by omega)
        case measure => simp [intOf]
      | some l =>
        simp only [hx] at hm
        obtain ⟨rfl, hsl⟩ := hm
        have Hl := Lib.hid (pairS_some (k := 3) (by omega) Hno.out hx); clear hx
        obtain ⟨A2, cap2, rfl, hc2, hr2⟩ := hsl
        have Hs := Lib.hid (show Sl elStp w2 (fun k => w.heap.size ≤ k) (.slice A2 l.length cap2) l from ⟨A2, cap2, rfl, hc2, hr2.mono fun k hk _ => Nat.le_trans (HF.out.trans hw).size hk⟩)
        clear hr2
        go_wp2
        go_ret2
        unfold Paired
        rw [Hl.out]
        exact ⟨_, rfl, Hs.out, HF.out.trans (hw.trans hfr)⟩
end Go.Proofs.Ytbhmpbaembmlnaa
