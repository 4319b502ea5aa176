/- normal.once. -/
import Derived.Test.YtbhmpbaembmlnaaB4
set_option linter.unusedVariables false
namespace Go.Proofs.Ytbhmpbaembmlnaa
open Go.RowKit

/-- One turn: the first two neighbours that a rule fits. -/
def onceS : List Stp → Option (List Stp)
  | a :: b :: rest => match pairS a b with
    | some r => some (r ++ rest)
    | none => (onceS (b :: rest)).map (a :: ·)
  | _ => none

theorem once_at {r : List Stp} : ∀ (k : Nat) (xs : List Stp) (a b : Stp), (∀ (j : Nat) (x y : Stp), j < k → xs[j]? = some x → xs[j + 1]? = some y → pairS x y = none) → xs[k]? = some a → xs[k + 1]? = some b → pairS a b = some r → onceS xs = some (xs.take k ++ r ++ xs.drop (k + 2))
  | 0, xs, a, b, hno, ha, hb, hr => by
    match xs, ha, hb with
    | x :: y :: rest, ha, hb =>
      simp at ha hb
      subst ha; subst hb
      simp [onceS, hr]
  | k + 1, xs, a, b, hno, ha, hb, hr => by
    match xs, ha, hb with
    | x :: y :: rest, ha, hb =>
      have h0 := hno 0 x y (by omega) rfl rfl
      have ih := once_at k (y :: rest) a b (fun j p q hj hp hq => hno (j + 1) p q (by omega) (by simpa using hp) (by simpa using hq)) (by simpa using ha) (by simpa using hb) hr
      simp [onceS, h0, ih]
    | [x], ha, hb => simp at ha
theorem once_none : ∀ (xs : List Stp), (∀ (j : Nat) (x y : Stp), xs[j]? = some x → xs[j + 1]? = some y → pairS x y = none) → onceS xs = none
  | [], _ => rfl
  | [x], _ => rfl
  | x :: y :: rest, h => by
    have h0 := h 0 x y rfl rfl
    have ih := once_none (y :: rest) (fun j p q hp hq => h (j + 1) p q (by simpa using hp) (by simpa using hq))
    simp [onceS, h0, ih]
theorem pairS_len {a b : Stp} {r : List Stp} (h : pairS a b = some r) : r.length ≤ 1 := by
  rcases pair_cases a b with ⟨hp, _⟩ | ⟨hp, _⟩ | ⟨hp, _⟩ | ⟨hp, _⟩
  · rw [hp] at h; injection h with h; subst h; simp
  · rw [hp] at h; injection h with h; subst h; simp
  · rw [hp] at h
    obtain ⟨t, _, rfl⟩ := Option.map_eq_some_iff.1 h
    simp
  · rw [hp] at h; cases h

def Onced (S : Nat → Prop) (xs : List Stp) (w : World) (e : Ending) (w' : World) : Prop :=
  ∃ v, e = .returned (.tuple #[v, .bool (onceS xs).isSome]) ∧ Sl elStp w' (fun k => S k ∨ w.heap.size ≤ k) v ((onceS xs).getD xs) ∧ Fr w w'

set_option maxRecDepth 100000 in
set_option maxHeartbeats 4000000 in
theorem nOnce (S : Nat → Prop) (xs : List Stp) (v : Value) (w : World) (h : Sl elStp w S v xs) (hlen : xs.length ≤ 1000000) : Calls Try.prog 97 #[v] w (Onced S xs w) := by
  have h0 := h
  obtain ⟨A, cap, rfl, hcap, hrow⟩ := h0
  go_enter Try.func97, Try.ntmps97
  go_wp2_with fail
  go_loopw [4] (fun i wr => ∃ k : Nat, k ≤ xs.length ∧ i = .int .i64 ((k : Int) + 1) ∧ Hid (∀ (j : Nat) (x y : Stp), j < k → xs[j]? = some x → xs[j + 1]? = some y → pairS x y = none) ∧ Fr w wr) (fun i _ => xs.length + 1 - (intOf i).toNat)
  case atStart => exact ⟨0, Nat.zero_le _, rfl, Lib.hid fun j x y h => absurd h (by omega), Fr.refl w⟩
  case round =>
    obtain ⟨k, hkl, rfl, Hno, hw⟩ := hrel
    by_cases hlt : k + 1 < xs.length
    · obtain ⟨a, ha⟩ := get_some (l := xs) (k := k) (by omega)
      obtain ⟨b, hb⟩ := get_some hlt
      have hrw := hrow.keep (S := S) hw.keeps.all hw.size
      obtain ⟨g, off, B, c1, rfl, -, hgl, ⟨a0, a1, a2, a3, a4, a5, a6, a7, a8⟩, -, har⟩ := hrw.stp ha
      obtain ⟨g', off', B', c2, hA, -, -, ⟨b0, b1, b2, b3, b4, b5, b6, b7, b8⟩, -, hbr⟩ := hrw.stp hb
      injection hA with hA; injection hA with hA1 hA2; subst hA1; subst hA2
      have d1 : (k : Int) + 1 < xs.length := by omega
      have d2 : k < xs.length := by omega
      have d3 : (0 : Int) ≤ (k : Int) + 1 := by omega
      have d4 : (0 : Int) ≤ (k : Int) + 1 + 1 := by omega
      have hwk : IntKind.i64.wrap (k : Int) = k := wrap_small _ (by omega) (by omega)
      have hwk2 : IntKind.i64.wrap ((k : Int) + 1 + 1) = k + 1 + 1 := wrap_small _ (by omega) (by omega)
      go_wp2_with fail
      refine wp_region_plan [(true, 0), (true, 1), (true, 2), (true, 3), (true, 4), (true, 5), (true, 6), (true, 7), (true, 8), (false, 9), (true, 10), (true, 11), (true, 12), (true, 13), (true, 14)] (Fr wr) (by kernel_rfl) (by kernel_rfl) (by kernel_rfl) (by kernel_rfl) (fun _ _ d _ _ h => by cases d <;> exact h) ((Fr.refl _).drewN 1) ?_
      simp only [planOps, List.getElem?_toArray, List.getElem?_cons_zero, List.getElem?_cons_succ]
      repeat (first
        | (refine wpSeqH_skip rfl ?_; simp only [Act.put, List.setIfInBounds_toArray, List.set_cons_zero, List.set_cons_succ])
        | (refine wpSeqH_take (v := ?_) rfl (fun w' hw' => ?_) ?_; rotate_left; (obtain ⟨r1, r2⟩ := Fr.rules hw'; go_simp; with_reducible rfl); simp only [Act.put, List.setIfInBounds_toArray, List.set_cons_zero, List.set_cons_succ]))
      refine wpSeqH_run rfl (fun K hK => ?_)
      go_wp2_with fail
      refine (nPair a b _ _ _ (har.here.later ((Fr.refl _).drewN 1)) (hbr.here.later ((Fr.refl _).drewN 1))).mono ?_
      rintro e w1 hP
      unfold Paired at hP
      cases hx : pairS a b with
      | none =>
        simp only [hx] at hP
        obtain ⟨rfl, hf⟩ := hP
        have hf' : Fr wr w1 := ((Fr.refl _).drewN 1).trans hf
        have Hx := Lib.hid hx; clear hx
        have Ha := Lib.hid ha
        have Hb := Lib.hid hb
        clear ha hb
        go_wp2_with fail
        refine hK.out _ _ hf' ?_
        clear hK K
        repeat (first
        | (refine wpSeqH_skip rfl ?_; simp only [Act.put, List.setIfInBounds_toArray, List.set_cons_zero, List.set_cons_succ])
        | (refine wpSeqH_take (v := ?_) rfl (fun w' hw' => ?_) ?_; rotate_left; (obtain ⟨r1, r2⟩ := Fr.rules hw'; go_simp; with_reducible rfl); simp only [Act.put, List.setIfInBounds_toArray, List.set_cons_zero, List.set_cons_succ]))
        refine wpSeqH_done ?_
        go_wp2
        go_roundw
        case rel =>
          refine ⟨k + 1, by omega, by simp, Lib.hid fun j x y hj hjx hjy => ?_, hw.trans hf'⟩
          by_cases hjk : j = k
          · subst hjk
            rw [Ha.out] at hjx; rw [Hb.out] at hjy
            injection hjx with hjx; injection hjy with hjy
            subst hjx; subst hjy
            exact Hx.out
          · exact Hno.out j x y (by omega) hjx hjy
        case measure => simp [intOf]; omega
      | some l =>
        simp only [hx] at hP
        obtain ⟨v2, rfl, hs, hf⟩ := hP
        have hf' : Fr wr w1 := ((Fr.refl _).drewN 1).trans hf
        have hl1 := pairS_len hx
        have HO := Lib.hid (once_at k xs a b Hno.out ha hb hx); clear hx ha hb
        obtain ⟨A2, cap2, rfl, hc2, hr2⟩ := hs
        have Hs := Lib.hid (show Sl elStp w1 (fun k => S k ∨ w.heap.size ≤ k) (.slice A2 l.length cap2) l from ⟨A2, cap2, rfl, hc2, hr2.mono fun k hk _ => .inr (Nat.le_trans hw.size hk)⟩)
        clear hr2
        have Hrow := Lib.hid hrow
        clear hrow hrw
        go_wp2_with fail
        refine hK.out _ _ hf' ?_
        clear hK K
        repeat (first
        | (refine wpSeqH_skip rfl ?_; simp only [Act.put, List.setIfInBounds_toArray, List.set_cons_zero, List.set_cons_succ])
        | (refine wpSeqH_take (v := ?_) rfl (fun w' hw' => ?_) ?_; rotate_left; (obtain ⟨r1, r2⟩ := Fr.rules hw'; go_simp; with_reducible rfl); simp only [Act.put, List.setIfInBounds_toArray, List.set_cons_zero, List.set_cons_succ]))
        refine wpSeqH_done ?_
        have e1 : k ≤ cap := by omega
        have e2 : k + 1 + 1 ≤ xs.length := by omega
        go_wp2_with fail
        refine wp_region_plan [(true, 0), (true, 1), (true, 2), (true, 3), (true, 4), (true, 5), (true, 6), (true, 8), (true, 9), (true, 10), (true, 11), (false, 7), (false, 12), (true, 13), (true, 14)] (Fr w) (by kernel_rfl) (by kernel_rfl) (by kernel_rfl) (by kernel_rfl) (fun _ _ d _ _ h => by cases d <;> exact h) ((hw.trans hf').drewN 1) ?_
        simp only [planOps, List.getElem?_toArray, List.getElem?_cons_zero, List.getElem?_cons_succ]
        repeat (first
        | (refine wpSeqH_skip rfl ?_; simp only [Act.put, List.setIfInBounds_toArray, List.set_cons_zero, List.set_cons_succ])
        | (refine wpSeqH_take (v := ?_) rfl (fun w' hw' => ?_) ?_; rotate_left; (obtain ⟨r1, r2⟩ := Fr.rules hw'; go_simp; with_reducible rfl); simp only [Act.put, List.setIfInBounds_toArray, List.set_cons_zero, List.set_cons_succ]))
        have hlk : (xs.take k).length = k := by simp; omega
        have hld : (xs.drop (k + 2)).length = xs.length - (k + 2) := by simp
        have hz27 : (Value.agg #[(.int .i8 0), (.int .i64 0), (.int .i64 0), (.int .i64 0), (.string ⟨#[]⟩), (.int .i64 0), (.int .i64 0), (.string ⟨#[]⟩), (.slice none 0 0)]).cells.size = elStp.size := rfl
        have hF1 : Fr w w1.drew := (hw.trans hf').drewN 1
        have hr1 := ((Hrow.out.take k).keep (S := S) hF1.keeps.all hF1.size).mono (S' := fun k => S k ∨ w.heap.size ≤ k) fun k hk _ => .inl hk
        obtain ⟨v3, w3, hrun3, hF3, hH3, -⟩ := run_append_full (P := Try.prog) elStp w1.drew 29 29 27 _ 104 Try.underlying29 info27 hz27 (g := g) (off := off) (xs := xs.take k) (ys := l) ⟨_, _, rfl, Nat.le_refl _, hr1⟩ (Hs.out.keep ((Fr.refl w1).drewN 1).keeps.all (Nat.le_refl _)) (by rw [hlk]; unfold maxLen; omega) (by rw [hlk]; omega)
        have hu : Sl elStp w1.drew (fun k => S k ∨ w.heap.size ≤ k) (.slice (if cap = k + 2 then some ⟨g, off, none⟩ else some ⟨g, off + (k + 2) * 9, none⟩) (xs.length - (k + 2)) (cap - (k + 2))) (xs.drop (k + 2)) := by
          refine ⟨_, _, by rw [hld], by rw [hld]; omega, ?_⟩
          have hr0 := (Hrow.out.keep (S := S) hF1.keeps.all hF1.size).mono (S' := fun k => S k ∨ w.heap.size ≤ k) fun k hk _ => .inl hk
          by_cases hc : cap = k + 2
          · rw [List.drop_eq_nil_of_le (by omega)]
            exact Row.nil _ _ _ _
          · rw [if_neg hc]
            exact hr0.drop (k + 2)
        obtain ⟨v4, w4, hrun4, hF4, hH4⟩ := run_append_half (P := Try.prog) elStp w1.drew 29 29 27 _ 104 Try.underlying29 info27 hz27 hF3 hH3 hu (by rw [List.length_append, hlk, hld]; unfold maxLen; omega) (by rw [List.length_append, hlk, hld]; omega)
        rw [hlk] at hrun3
        have HF1 := Lib.hid hF1
        have HF3 := Lib.hid (hF1.trans hF3)
        have HF4 := Lib.hid (hF1.trans hF4)
        have HR3 := Lib.hid hrun3
        have HR4 := Lib.hid hrun4
        have HH := Lib.hid (hH4.mono (S' := fun k => S k ∨ w.heap.size ≤ k) fun k hk _ => by
          rcases hk with hk | hk
          · exact hk
          · exact .inr (Nat.le_trans hF1.size hk))
        have e3 : (k : Int) + 1 + 1 ≤ xs.length := by omega
        have e4 : ((k : Int) + 1 + 1).toNat = k + 2 := by omega
        clear hrun3 hrun4 hF1 hF3 hF4 hH3 hH4 hu hr1 hz27
        repeat (first
          | (refine wpSeqH_skip rfl ?_; simp only [Act.put, List.setIfInBounds_toArray, List.set_cons_zero, List.set_cons_succ])
          | (refine wpSeqH_take (v := ?_) rfl (fun w' hw' => ?_) ?_; rotate_left; (obtain ⟨r1, r2⟩ := Fr.rules hw'; go_simp; with_reducible rfl); simp only [Act.put, List.setIfInBounds_toArray, List.set_cons_zero, List.set_cons_succ]))
        refine wpSeqH_run rfl (fun K hK => ?_)
        refine Go.Lib.wp_append_run _ (.tmp 32) (.tmp 33) 29 29 rfl _ _ rfl rfl _ _ HR3.out ?_
        refine hK.out _ _ HF3.out ?_
        clear hK K
        simp only [Act.put, List.setIfInBounds_toArray, List.set_cons_zero, List.set_cons_succ]
        refine wpSeqH_run rfl (fun K hK => ?_)
        refine Go.Lib.wp_append_run _ (.tmp 34) (.tmp 38) 29 29 rfl _ _ rfl rfl _ _ HR4.out ?_
        refine hK.out _ _ HF4.out ?_
        clear hK K
        simp only [Act.put, List.setIfInBounds_toArray, List.set_cons_zero, List.set_cons_succ]
        repeat (first
          | (refine wpSeqH_skip rfl ?_; simp only [Act.put, List.setIfInBounds_toArray, List.set_cons_zero, List.set_cons_succ])
          | (refine wpSeqH_take (v := ?_) rfl (fun w' hw' => ?_) ?_; rotate_left; (obtain ⟨r1, r2⟩ := Fr.rules hw'; go_simp; with_reducible rfl); simp only [Act.put, List.setIfInBounds_toArray, List.set_cons_zero, List.set_cons_succ]))
        refine wpSeqH_done ?_
        go_wp2
        all_goals
          go_ret2
          unfold Onced
          rw [HO.out]
          exact ⟨_, rfl, HH.out, HF4.out⟩
    · have Hn := Lib.hid (once_none xs fun j x y hx hy => Hno.out j x y (by have := get_lt hy; omega) hx hy)
      have HH := Lib.hid ((h.keep hw.keeps.all hw.size).mono (S' := fun k => S k ∨ w.heap.size ≤ k) fun k hk _ => .inl hk)
      have d1 : ¬ (k : Int) + 1 < xs.length := by omega
      go_wp2
      go_ret2
      unfold Onced
      rw [Hn.out]
      exact ⟨_, rfl, HH.out, hw⟩
end Go.Proofs.Ytbhmpbaembmlnaa
