/- allotmentlaw12.NormalPairs. -/
import Derived.Test.YtbhmpbaembmlnaaC1
import Derived.Test.YtbhmpbaembmlnaaA6
import Derived.Test.YtbhmpbaembmlnaaA4
set_option linter.unusedVariables false
namespace Go.Proofs.Ytbhmpbaembmlnaa
open Go.RowKit

theorem Paired.flat {r : Option (List Stp)} {w w' : World} {e : Ending} (h : Paired r w e w') {l : List Stp} {b : Bool} (hl : r.getD [] = l) (hb : r.isSome = b) : ∃ v, e = .returned (.tuple #[v, .bool b]) ∧ SlT elStp w' v l ∧ Fr w w' := by
  subst hl; subst hb
  unfold Paired at h
  cases r with
  | none => exact ⟨_, h.1, ⟨none, 0, rfl, Nat.le_refl _, Row.nil _ _ _ _⟩, h.2⟩
  | some l => obtain ⟨v, h1, h2, h3⟩ := h; exact ⟨v, h1, h2.mono fun _ _ _ => trivial, h3⟩

set_option maxRecDepth 100000 in
set_option maxHeartbeats 1000000 in
theorem lawPairs (a b : Stp) (ca cb : List Value) (w : World) (ha : RP w a ca) (hb : RP w b cb) : Calls Try.prog 3 #[.agg ca.toArray, .agg cb.toArray] w fun e w' => e = .returned (.bool true) ∧ Fr w w' := by
  obtain ⟨A, cap, rfl, has⟩ := ha.open
  obtain ⟨B, capB, rfl, hbs⟩ := hb.open
  have hF0 : Fr w ((w.alloc (.cells (stpCells a A cap).toArray 27)).alloc (.cells (stpCells b B capB).toArray 27)) := (Fr.new w _).alloc _
  go_enter Try.func3, Try.ntmps3
  go_wp2_with fail
  have hs := many_slice (w := (w.alloc (.cells (stpCells a A cap).toArray 27)).alloc (.cells (stpCells b B capB).toArray 27)) (xs := [a, b]) (css := [stpCells a A cap, stpCells b B capB]) rfl (by
    intro j x cs hx hcs
    match j with
    | 0 => injection hx with hx; injection hcs with hcs; subst hx; subst hcs; exact ha.later hF0
    | 1 => injection hx with hx; injection hcs with hcs; subst hx; subst hcs; exact hb.later hF0
    | j + 2 => simp at hx)
  simp only [World.size_alloc] at hs
  refine (great12 [a, b] _ _ hs (by simp)).mono ?_
  rintro e w1 ⟨bg, rfl, hbg, hf1⟩
  have hF1 := (hF0.alloc (.cells [stpCells a A cap, stpCells b B capB].flatten.toArray 27)).trans hf1
  have hf2 : Fr ((w.alloc (.cells (stpCells a A cap).toArray 27)).alloc (.cells (stpCells b B capB).toArray 27)) w1 := (Fr.new _ (.cells [stpCells a A cap, stpCells b B capB].flatten.toArray 27)).trans hf1
  have b0 := ((Blk.new w (stpCells a A cap) 27).alloc (.cells (stpCells b B capB).toArray 27)).later hf2
  have b1 := (Blk.new (w.alloc (.cells (stpCells a A cap).toArray 27)) (stpCells b B capB) 27).later hf2
  rw [World.size_alloc] at b1
  have HF1 := Lib.hid hF1
  have Ha := Lib.hid ha
  have Hb := Lib.hid hb
  clear hs hbg hf1 hF1 hf2 hF0 ha hb has hbs
  cases bg with
  | true =>
    go_wp2_with fail
    refine (wakes12 _).mono ?_
    rintro e w2 ⟨rfl, hf2⟩
    have HF2 := Lib.hid (HF1.out.trans hf2); clear hf2
    go_wp2
    go_ret
    exact ⟨rfl, HF2.out⟩
  | false =>
    obtain ⟨f0, f1⟩ := b0.rules
    obtain ⟨f2, f3⟩ := b1.rules
    have hz := b1.lt
    have hz0 := b0.lt
    obtain ⟨l, hl⟩ : ∃ l, (pairS a b).getD [] = l := ⟨_, rfl⟩
    obtain ⟨bb, hbb⟩ : ∃ bb, (pairS a b).isSome = bb := ⟨_, rfl⟩
    have Hlen : Hid (l.length ≤ 9223372036854775807) := by
      refine Lib.hid ?_
      rw [← hl]
      cases hp : pairS a b with
      | none => simp
      | some l => have := pairS_len hp; simp only [Option.getD_some]; omega
    go_wp2_with fail
    refine (nPair a b _ _ _ (Ha.out.later HF1.out) (Hb.out.later HF1.out)).mono ?_
    rintro e w2 hP
    obtain ⟨v2, rfl, hs2, hf2⟩ := hP.flat hl hbb
    have hs2' := hs2
    obtain ⟨A2, cap2, rfl, -⟩ := hs2'
    have HF2 := Lib.hid (HF1.out.trans hf2)
    have Hs2 := Lib.hid hs2
    have b02 := b0.later hf2
    have b12 := b1.later hf2
    have Hl := Lib.hid hl
    have Hbb := Lib.hid hbb
    clear hl hbb hP hs2 hf2 b0 b1 f0 f1 f2 f3 hz hz0
    obtain ⟨f0, f1⟩ := b02.rules
    obtain ⟨f2, f3⟩ := b12.rules
    go_wp2_with fail
    refine (rPair a b _ _ _ (Ha.out.later HF2.out) (Hb.out.later HF2.out)).mono ?_
    rintro e w3 hP
    obtain ⟨v3, rfl, hs3, hf3⟩ := hP.flat Hl.out Hbb.out
    have hs3' := hs3
    obtain ⟨A3, cap3, rfl, -⟩ := hs3'
    have HF3 := Lib.hid (HF2.out.trans hf3)
    have Hs3 := Lib.hid hs3
    have Hs23 := Lib.hid (Hs2.out.later hf3)
    clear hP hs3 hf3 b02 b12 f0 f1 f2 f3
    cases bb
    all_goals
      go_wp2_with fail
      refine (sameSteps _ _ _ _ _ Hs23.out Hs3.out Hlen.out Hlen.out).mono ?_
      rintro e w4 ⟨b4, rfl, hb4, hf4⟩
      obtain rfl : b4 = true := hb4.2 rfl
      have HF4 := Lib.hid (HF3.out.trans hf4)
      clear hb4 hf4
      go_wp2_with fail
      refine (wakes12 _).mono ?_
      rintro e w5 ⟨rfl, hf5⟩
      have HF5 := Lib.hid (HF4.out.trans hf5); clear hf5
      go_wp2_with fail
      go_ret
      exact ⟨rfl, HF5.out⟩
end Go.Proofs.Ytbhmpbaembmlnaa
