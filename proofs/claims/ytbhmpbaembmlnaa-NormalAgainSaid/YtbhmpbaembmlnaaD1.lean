/- allotmentlaw12.NormalAgain. -/
import Derived.Test.YtbhmpbaembmlnaaC2
import Derived.Test.YtbhmpbaembmlnaaD0
set_option linter.unusedVariables false
namespace Go.Proofs.Ytbhmpbaembmlnaa
open Go.RowKit

set_option maxRecDepth 100000 in
set_option maxHeartbeats 4000000 in
theorem lawAgain (l : List Stp) (v : Value) (w : World) (h : SlT elStp w v l) (hl : l.length ≤ 9223372036854775807) : Calls Try.prog 4 #[v] w fun e w' => e = .returned (.bool true) ∧ Fr w w' := by
  have h0 := h
  obtain ⟨A, cap, rfl, -⟩ := h0
  go_enter Try.func4, Try.ntmps4
  go_wp2_with fail
  refine (great12 l _ _ h hl).mono ?_
  rintro e w1 ⟨bg, rfl, hbg, hf1⟩
  have H := Lib.hid h
  have HF1 := Lib.hid hf1
  have Hbg := Lib.hid hbg
  clear h hf1 hbg
  cases bg with
  | true =>
    go_wp2_with fail
    refine (wakes12 _).mono ?_
    rintro e w2 ⟨rfl, hf2⟩
    have HF2 := Lib.hid (HF1.out.trans hf2); clear hf2
    go_wp2
    go_ret
    exact ⟨rfl, HF2.out⟩
  | false =>
    have hl60 : l.length ≤ 60 := by
      by_cases h60 : 60 < l.length
      · exact absurd (Hbg.out.2 (.inl h60)) (by simp)
      · omega
    go_wp2_with fail
    refine (nOf l _ _ (H.out.later HF1.out) (by omega)).mono ?_
    rintro e w2 ⟨A2, cap2, rfl, hs2, hf2⟩
    have HF2 := Lib.hid (HF1.out.trans hf2)
    obtain ⟨form, hform⟩ : ∃ f, ofS l = f := ⟨_, rfl⟩
    have Hq : Hid (onceS form = none ∧ ofS form = form ∧ ((onceS l).isNone = true ↔ form = l)) := by
      rw [← hform]
      exact Lib.hid ⟨ofS_once l, ofS_again l, ofS_is l⟩
    have hle : form.length ≤ l.length := by rw [← hform]; exact ofS_len l
    rw [hform] at hs2 ⊢
    have Hs2 := Lib.hid hs2
    clear hs2 hf2 hform
    go_wp2_with fail
    go_loopw [4] (fun i wr => ∃ k : Nat, k ≤ form.length ∧ i = .int .i64 k ∧ Fr w2 wr) (fun i _ => form.length + 1 - (intOf i).toNat)
    case atStart => exact ⟨0, Nat.zero_le _, rfl, Fr.refl w2⟩
    case round =>
      obtain ⟨k, hkl, rfl, hw⟩ := hrel
      by_cases hlt : k + 1 < form.length
      · obtain ⟨a, ha⟩ := get_some (l := form) (k := k) (by omega)
        obtain ⟨b, hb⟩ := get_some hlt
        have hp := once_pairs Hq.out.1 k a b ha hb
        obtain ⟨A', cap', hA0, hcap, hrow⟩ := Hs2.out.later hw
        injection hA0 with q1 q2 q3
        subst q1; subst q3
        obtain ⟨g, off, B, c1, rfl, -, hgl, ⟨a0, a1, a2, a3, a4, a5, a6, a7, a8⟩, -, har⟩ := hrow.stp ha
        obtain ⟨g', off', B', c2, hA, -, -, ⟨b0, b1, b2, b3, b4, b5, b6, b7, b8⟩, -, hbr⟩ := hrow.stp hb
        injection hA with hA; injection hA with hA1 hA2; subst hA1; subst hA2
        have d1 : (k : Int) + 1 < form.length := by omega
        have d2 : k < form.length := by omega
        have d3 : (0 : Int) ≤ (k : Int) + 1 := by omega
        have hwk2 : IntKind.i64.wrap ((k : Int) + 1) = k + 1 := wrap_small _ (by omega) (by omega)
        have hwk3 : ((k : Int) + 1).toNat = k + 1 := by omega
        clear hrow ha hb
        go_wp2_with fail
        refine wp_region_plan [(true, 0), (true, 1), (true, 2), (true, 3), (true, 4), (true, 5), (true, 6), (true, 7), (true, 8), (false, 9), (true, 10), (true, 11), (true, 12), (true, 13), (true, 14)] (Fr wr) (by kernel_rfl) (by kernel_rfl) (by kernel_rfl) (by kernel_rfl) (fun _ _ d _ _ h => by cases d <;> exact h) ((Fr.refl _).drewN 1) ?_
        simp only [planOps, List.getElem?_toArray, List.getElem?_cons_zero, List.getElem?_cons_succ]
        repeat (first
          | (refine wpSeqH_skip rfl ?_; simp only [Act.put, List.setIfInBounds_toArray, List.set_cons_zero, List.set_cons_succ])
          | (refine wpSeqH_take (v := ?_) rfl (fun w' hw' => ?_) ?_; rotate_left; (obtain ⟨r1, r2⟩ := Fr.rules hw'; go_simp; with_reducible rfl); simp only [Act.put, List.setIfInBounds_toArray, List.set_cons_zero, List.set_cons_succ]))
        refine wpSeqH_run rfl (fun K hK => ?_)
        have Hp := Lib.hid hp; clear hp
        clear hwk2 hwk3
        go_wp2_with fail
        refine (nPair a b _ _ _ (har.here.later ((Fr.refl _).drewN 1)) (hbr.here.later ((Fr.refl _).drewN 1))).mono ?_
        rintro e w3 hP
        unfold Paired at hP
        simp only [Hp.out] at hP
        obtain ⟨rfl, hf⟩ := hP
        have hf' : Fr wr w3 := ((Fr.refl _).drewN 1).trans hf
        go_wp2_with fail
        refine hK.out _ _ hf' ?_
        clear hK K
        repeat (first
        | (refine wpSeqH_skip rfl ?_; simp only [Act.put, List.setIfInBounds_toArray, List.set_cons_zero, List.set_cons_succ])
        | (refine wpSeqH_take (v := ?_) rfl (fun w' hw' => ?_) ?_; rotate_left; (obtain ⟨r1, r2⟩ := Fr.rules hw'; go_simp; with_reducible rfl); simp only [Act.put, List.setIfInBounds_toArray, List.set_cons_zero, List.set_cons_succ]))
        refine wpSeqH_done ?_
        go_wp2
        go_roundw
        case rel => exact ⟨k + 1, by omega, by go_num, hw.trans hf'⟩
        case measure => simp [intOf]; omega
      · have d1 : ¬ (k : Int) + 1 < form.length := by omega
        have HFr := Lib.hid (HF2.out.trans hw)
        have hs3 := Lib.hid (Hs2.out.later hw)
        clear hw
        go_wp2_with fail
        refine (nIs form _ _ hs3.out (by omega)).mono ?_
        rintro e w4 ⟨rfl, h4⟩
        rw [Hq.out.1]
        have HF4 := Lib.hid (HFr.out.trans h4)
        have hs4 := Lib.hid (hs3.out.later h4)
        clear h4
        simp only [Option.isNone_none]
        go_wp2_with fail
        refine (nOf form _ _ hs4.out (by omega)).mono ?_
        rintro e w5 ⟨A5, cap5, rfl, hs5, hf5⟩
        have HF5 := Lib.hid (HF4.out.trans hf5)
        have hs6 := Lib.hid (hs4.out.later hf5)
        rw [Hq.out.2.1] at hs5 ⊢
        have Hs5 := Lib.hid hs5
        clear hs5 hf5
        go_wp2_with fail
        refine (sameSteps _ _ _ _ _ Hs5.out hs6.out (by omega) (by omega)).mono ?_
        rintro e w6 ⟨b6, rfl, hb6, hf6⟩
        obtain rfl : b6 = true := hb6.2 rfl
        have HF6 := Lib.hid (HF5.out.trans hf6)
        have hs7 := Lib.hid (hs6.out.later hf6)
        clear hb6 hf6
        go_wp2_with fail
        refine (nIs l _ _ (H.out.later HF6.out) (by omega)).mono ?_
        rintro e w7 ⟨rfl, h7⟩
        have HF7 := Lib.hid (HF6.out.trans h7)
        have hs8 := Lib.hid (hs7.out.later h7)
        clear h7
        obtain ⟨bi, hbi⟩ : ∃ bi, (onceS l).isNone = bi := ⟨_, rfl⟩
        have Hbi := Lib.hid hbi
        rw [hbi]
        clear hbi
        go_wp2_with fail
        refine (sameSteps _ _ _ _ _ hs8.out (H.out.later HF7.out) (by omega) (by omega)).mono ?_
        rintro e w8 ⟨b8, rfl, hb8, hf8⟩
        have HF8 := Lib.hid (HF7.out.trans hf8)
        have he : b8 = bi := by
          have h1 := Hq.out.2.2
          rw [Hbi.out] at h1
          cases b8 <;> cases bi <;> simp_all
        subst he
        clear hb8 hf8
        cases b8
        all_goals
          go_wp2_with fail
          refine (wakes12 _).mono ?_
          rintro e w9 ⟨rfl, hf9⟩
          have HF9 := Lib.hid (HF8.out.trans hf9); clear hf9
          go_wp2_with fail
          go_ret
          exact ⟨rfl, HF9.out⟩
end Go.Proofs.Ytbhmpbaembmlnaa
