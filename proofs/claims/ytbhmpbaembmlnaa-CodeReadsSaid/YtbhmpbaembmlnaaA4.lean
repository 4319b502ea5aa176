/- Sameness of steps: allotmentref01.SameStep, SameSteps. -/
import Derived.Test.YtbhmpbaembmlnaaA3
set_option linter.unusedVariables false
namespace Go.Proofs.Ytbhmpbaembmlnaa
open Go.RowKit

theorem Stp.ext' {s t : Stp} (h1 : s.op = t.op) (h2 : s.id = t.id) (h3 : s.parent = t.parent) (h4 : s.place = t.place) (h5 : s.text = t.text) (h6 : s.sub = t.sub) : s = t := by
  cases s; cases t; simp at *; exact ⟨h1, h2, h3, h4, h5, h6⟩

theorem text_ne {a b : ByteArray} (h : ¬ a = b) : (a.toList == b.toList) = false := by simpa using fun e => h (bytes_eq.1 (by simpa using e))

set_option maxRecDepth 100000 in
set_option maxHeartbeats 2000000 in
theorem sameStep (s t : Stp) (cs ct : List Value) (w : World) (hs : RP w s cs) (ht : RP w t ct) :
    Calls Try.prog 95 #[.agg cs.toArray, .agg ct.toArray] w fun e w' => ∃ b, e = .returned (.bool b) ∧ (b = true ↔ s = t) ∧ Fr w w' := by
  obtain ⟨A, cap, rfl, hss⟩ := hs.open
  obtain ⟨A', cap', rfl, htt⟩ := ht.open
  by_cases h1 : s.op = t.op
  case neg =>
    have e1 : (s.op == t.op) = false := by simpa using h1
    have H1 := Lib.hid h1; clear h1
    go_enter Try.func95, Try.ntmps95
    go_wp2_with fail
    go_ret
    exact ⟨_, rfl, by simp; exact fun h => H1.out (by rw [h]), (Fr.new w _).alloc _⟩
  have e1 : (s.op == t.op) = true := by simpa using h1
  have H1 := Lib.hid h1; clear h1
  by_cases h2 : s.id = t.id
  case neg =>
    have e2 : (s.id == t.id) = false := by simpa using h2
    have H2 := Lib.hid h2; clear h2
    go_enter Try.func95, Try.ntmps95
    go_wp2_with fail
    go_ret
    exact ⟨_, rfl, by simp; exact fun h => H2.out (by rw [h]), (Fr.new w _).alloc _⟩
  have e2 : (s.id == t.id) = true := by simpa using h2
  have H2 := Lib.hid h2; clear h2
  by_cases h3 : s.parent = t.parent
  case neg =>
    have e3 : (s.parent == t.parent) = false := by simpa using h3
    have H3 := Lib.hid h3; clear h3
    go_enter Try.func95, Try.ntmps95
    go_wp2_with fail
    go_ret
    exact ⟨_, rfl, by simp; exact fun h => H3.out (by rw [h]), (Fr.new w _).alloc _⟩
  have e3 : (s.parent == t.parent) = true := by simpa using h3
  have H3 := Lib.hid h3; clear h3
  by_cases h4 : s.place = t.place
  case neg =>
    have e4 : (s.place == t.place) = false := by simpa using h4
    have H4 := Lib.hid h4; clear h4
    go_enter Try.func95, Try.ntmps95
    go_wp2_with fail
    go_ret
    exact ⟨_, rfl, by simp; exact fun h => H4.out (by rw [h]), (Fr.new w _).alloc _⟩
  have e4 : (s.place == t.place) = true := by simpa using h4
  have H4 := Lib.hid h4; clear h4
  by_cases h5 : s.text = t.text
  case neg =>
    have e5 := text_ne h5
    have H5 := Lib.hid h5; clear h5
    go_enter Try.func95, Try.ntmps95
    go_wp2_with fail
    go_ret
    exact ⟨_, rfl, by simp; exact fun h => H5.out (by rw [h]), (Fr.new w _).alloc _⟩
  have e5 : (s.text.toList == t.text.toList) = true := bytes_eq.2 h5
  have H5 := Lib.hid h5; clear h5
  go_enter Try.func95, Try.ntmps95
  go_wp2_with fail
  refine (sameNode _ s.sub t.sub _ _ _ (Nat.le_refl _) (hss.later ((Fr.new w _).alloc _)) (htt.later ((Fr.new w _).alloc _))).mono ?_
  rintro e w1 ⟨b, rfl, hbe, hbw⟩
  have Hbe := Lib.hid hbe; clear hbe
  go_wp2_with fail
  go_ret
  refine ⟨_, rfl, ?_, ((Fr.new w _).alloc _).trans hbw⟩
  rw [Hbe.out]
  exact ⟨fun h => Stp.ext' H1.out H2.out H3.out H4.out H5.out h, fun h => by rw [h]⟩

set_option maxRecDepth 100000 in
set_option maxHeartbeats 2000000 in
theorem sameSteps (xs ys : List Stp) (v u : Value) (w : World) (hx : SlT elStp w v xs) (hy : SlT elStp w u ys) (hl : xs.length ≤ 9223372036854775807) (hl' : ys.length ≤ 9223372036854775807) :
    Calls Try.prog 22 #[v, u] w fun e w' => ∃ b, e = .returned (.bool b) ∧ (b = true ↔ xs = ys) ∧ Fr w w' := by
  obtain ⟨A, cap, rfl, hc, hr⟩ := hx
  obtain ⟨A', cap', rfl, hc', hr'⟩ := hy
  by_cases h4 : xs.length = ys.length
  case neg =>
    have e4 : ((xs.length : Int) != (ys.length : Int)) = true := by simpa using fun h => h4 (by omega)
    have H4 := Lib.hid h4; clear h4
    go_enter Try.func22, Try.ntmps22
    go_wp2_with fail
    go_ret
    exact ⟨_, rfl, by simp; exact fun h => H4.out (by rw [h]), Fr.refl w⟩
  have e4 : ((xs.length : Int) != (ys.length : Int)) = false := by rw [h4]; simp
  have H4 := Lib.hid h4; clear h4
  go_enter Try.func22, Try.ntmps22
  go_wp2_with fail
  go_loopw [5] (fun i wr => ∃ k : Nat, k ≤ xs.length ∧ i = .int .i64 k ∧ (∀ j, j < k → xs[j]? = ys[j]?) ∧ Fr w wr)
    (fun i _ => xs.length - (intOf i).toNat)
  case atStart => exact ⟨0, Nat.zero_le _, rfl, fun j h => absurd h (by omega), Fr.refl w⟩
  case round =>
    obtain ⟨k, hkl, rfl, hsame, hb⟩ := hrel
    have Hs := Lib.hid hsame; clear hsame
    by_cases hlt : k < xs.length
    · have hlt' : k < ys.length := by have := H4.out; omega
      obtain ⟨x, hx⟩ := get_some hlt
      obtain ⟨y, hy⟩ := get_some hlt'
      obtain ⟨g, off, B, capB, rfl, -, -, ⟨c0, c1, c2, c3, c4, c5, c6, c7, c8⟩, -, hxr⟩ := (hr.keep hb.keeps hb.size).stp hx
      obtain ⟨g', off', B', capB', rfl, -, -, ⟨d0, d1, d2, d3, d4, d5, d6, d7, d8⟩, -, hyr⟩ := (hr'.keep hb.keeps hb.size).stp hy
      have Hx := Lib.hid hx
      have Hy := Lib.hid hy
      clear hx hy
      go_wp2_with fail
      go_still_tail 8, (by kernel_rfl)
      go_wp2_with fail
      refine (sameStep x y _ _ _ (hxr.later ((Fr.refl wr).drewN 1)) (hyr.later ((Fr.refl wr).drewN 1))).mono ?_
      rintro e w1 ⟨b, rfl, hbe, hbw⟩
      have hbw' : Fr wr w1 := ((Fr.refl wr).drewN 1).trans hbw
      have Hbe := Lib.hid hbe; clear hbe
      cases b
      · go_wp2
        go_ret
        refine ⟨_, rfl, ?_, hb.trans hbw'⟩
        simp
        intro e
        have hx := Hx.out
        rw [e, Hy.out] at hx
        injection hx with hx
        exact absurd (Hbe.out.2 hx.symm) (by simp)
      · obtain rfl := Hbe.out.1 rfl
        go_wp2
        go_roundw
        case rel =>
          refine ⟨k + 1, by omega, by go_num, fun j hj => ?_, hb.trans hbw'⟩
          by_cases hjk : j = k
          · subst hjk; rw [Hx.out, Hy.out]
          · exact Hs.out j (by omega)
        case measure => simp [intOf]; omega
    · go_wp2
      go_ret
      refine ⟨_, rfl, ?_, hb⟩
      simp
      refine List.ext_getElem? fun j => ?_
      by_cases hj : j < k
      · exact Hs.out j hj
      · rw [List.getElem?_eq_none (by omega), List.getElem?_eq_none (by have := H4.out; omega)]
end Go.Proofs.Ytbhmpbaembmlnaa
