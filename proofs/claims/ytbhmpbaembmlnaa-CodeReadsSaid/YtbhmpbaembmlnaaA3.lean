/- Sameness: allotmentref01.SameNode, SameStep, SameSteps. -/
import Derived.Test.YtbhmpbaembmlnaaA1
set_option linter.unusedVariables false
namespace Go.Proofs.Ytbhmpbaembmlnaa
open Go.RowKit

theorem bytes_eq {a b : ByteArray} : (a.toList == b.toList) = true ↔ a = b := by
  rw [ByteArray.toList_eq, ByteArray.toList_eq, beq_iff_eq]
  exact ⟨fun h => ByteArray.ext (Array.toList_inj.1 h), fun h => by rw [h]⟩

theorem Nd.ext' {s t : Nd} (h1 : s.id = t.id) (h2 : s.kind = t.kind) (h3 : s.text = t.text) (h4 : s.kids = t.kids) : s = t := by
  cases s; cases t; simp at *; exact ⟨h1, h2, h3, h4⟩

set_option maxRecDepth 100000 in
set_option maxHeartbeats 1000000 in
theorem sameNode (n : Nat) : ∀ (s t : Nd) (cs ct : List Value) (w : World), s.ht ≤ n → RT w s cs → RT w t ct →
    Calls Try.prog 36 #[.agg cs.toArray, .agg ct.toArray] w fun e w' => ∃ b, e = .returned (.bool b) ∧ (b = true ↔ s = t) ∧ Fr w w' := by
  induction n with
  | zero => intro s t cs ct w h; have := s.ht_pos; omega
  | succ n ih =>
  intro s t cs ct w hn hs ht
  obtain ⟨A, cap, rfl, hcap, hlen, hrow, -⟩ := hs.open
  obtain ⟨A', cap', rfl, hcap', hlen', hrow', -⟩ := ht.open
  have hk9 : s.kids.length ≤ 9223372036854775807 := by unfold kidsMax at hlen; omega
  have hk9' : t.kids.length ≤ 9223372036854775807 := by unfold kidsMax at hlen'; omega
  by_cases h1 : s.id = t.id
  case neg =>
    have e1 : (s.id != t.id) = true := by simpa using h1
    have H1 := Lib.hid h1; clear h1
    go_enter Try.func36, Try.ntmps36
    go_wp2_with fail
    go_ret
    exact ⟨_, rfl, by simp; exact fun h => H1.out (by rw [h]), (Fr.new w _).alloc _⟩
  by_cases h2 : s.kind = t.kind
  case neg =>
    have e1 : (s.id != t.id) = false := by simpa using h1
    have e2 : (s.kind != t.kind) = true := by simpa using h2
    have H2 := Lib.hid h2; clear h1 h2
    go_enter Try.func36, Try.ntmps36
    go_wp2_with fail
    go_ret
    exact ⟨_, rfl, by simp; exact fun h => H2.out (by rw [h]), (Fr.new w _).alloc _⟩
  by_cases h3 : s.text = t.text
  case neg =>
    have e1 : (s.id != t.id) = false := by simpa using h1
    have e2 : (s.kind != t.kind) = false := by simpa using h2
    have e3 : (s.text.toList == t.text.toList) = false := by simpa using fun h => h3 (bytes_eq.1 (by simpa using h))
    have e3' : (s.text.toList != t.text.toList) = true := by simp only [bne, e3]; rfl
    have H3 := Lib.hid h3; clear h1 h2 h3
    go_enter Try.func36, Try.ntmps36
    go_wp2_with fail
    go_ret
    exact ⟨_, rfl, by simp; exact fun h => H3.out (by rw [h]), (Fr.new w _).alloc _⟩
  by_cases h4 : s.kids.length = t.kids.length
  case neg =>
    have e1 : (s.id != t.id) = false := by simpa using h1
    have e2 : (s.kind != t.kind) = false := by simpa using h2
    have e3 : (s.text.toList == t.text.toList) = true := bytes_eq.2 h3
    have e3' : (s.text.toList != t.text.toList) = false := by simp only [bne, e3]; rfl
    have e4 : ((s.kids.length : Int) != (t.kids.length : Int)) = true := by simpa using fun h => h4 (by omega)
    have H4 := Lib.hid h4; clear h1 h2 h3 h4
    go_enter Try.func36, Try.ntmps36
    go_wp2_with fail
    go_ret
    exact ⟨_, rfl, by simp; exact fun h => H4.out (by rw [h]), (Fr.new w _).alloc _⟩
  have e1 : (s.id != t.id) = false := by simpa using h1
  have e2 : (s.kind != t.kind) = false := by simpa using h2
  have e3 : (s.text.toList == t.text.toList) = true := bytes_eq.2 h3
  have e3' : (s.text.toList != t.text.toList) = false := by simp only [bne, e3]; rfl
  have e4 : ((s.kids.length : Int) != (t.kids.length : Int)) = false := by rw [h4]; simp
  have H1 := Lib.hid h1; have H2 := Lib.hid h2; have H3 := Lib.hid h3; have H4 := Lib.hid h4; clear h1 h2 h3 h4
  go_enter Try.func36, Try.ntmps36
  go_wp2_with fail
  go_loopw [5] (fun i wr => ∃ k : Nat, k ≤ s.kids.length ∧ i = .int .i64 k ∧ (∀ j, j < k → s.kids[j]? = t.kids[j]?) ∧ Fr w wr ∧
      Blk wr w.heap.size [.int .i64 s.id, .int .i64 s.kind, .string s.text, .slice A s.kids.length cap] 25 ∧ Blk wr (w.heap.size + 1) [.int .i64 t.id, .int .i64 t.kind, .string t.text, .slice A' t.kids.length cap'] 25)
    (fun i _ => s.kids.length - (intOf i).toNat)
  case atStart => exact ⟨0, Nat.zero_le _, rfl, fun j h => absurd h (by omega), (Fr.new w _).alloc _, (Blk.new w _ _).alloc _, by simpa using Blk.new (w.alloc _) _ _⟩
  case round =>
    obtain ⟨k, hkl, rfl, hsame, hb, hb0, hb1⟩ := hrel
    obtain ⟨f0, f1⟩ := hb0.rules
    obtain ⟨f2, f3⟩ := hb1.rules
    have Hs := Lib.hid hsame; clear hsame
    by_cases hlt : k < s.kids.length
    · have hlt' : k < t.kids.length := by have := H4.out; omega
      obtain ⟨x, hx⟩ := get_some hlt
      obtain ⟨y, hy⟩ := get_some hlt'
      have hxh := Nd.ht_get hx
      obtain ⟨g, off, B, capB, rfl, -, -, c0, c1, c2, c3, hxr⟩ := (hrow.keep hb.keeps hb.size).kid hx
      obtain ⟨g', off', B', capB', rfl, -, -, c0', c1', c2', c3', hyr⟩ := (hrow'.keep hb.keeps hb.size).kid hy
      have Hx := Lib.hid hx
      have Hy := Lib.hid hy
      have Hh := Lib.hid (show x.ht ≤ n by omega)
      clear hx hy hxh hn
      go_wp2_with fail
      go_still_tail 10, (by kernel_rfl)
      go_wp2_with fail
      refine (ih x y _ _ _ Hh.out (hxr.later ((Fr.refl wr).drewN 1)) (hyr.later ((Fr.refl wr).drewN 1))).mono ?_
      rintro e w1 ⟨b, rfl, hbe, hbw⟩
      have hbw' : Fr wr w1 := ((Fr.refl wr).drewN 1).trans hbw
      have Hbe := Lib.hid hbe; clear hbe
      cases b
      · go_wp2
        go_ret
        refine ⟨_, rfl, ?_, hb.trans hbw'⟩
        simp
        intro e
        have hx := Hx.out
        rw [e, Hy.out] at hx
        injection hx with hx
        exact absurd (Hbe.out.2 hx.symm) (by simp)
      · obtain rfl := Hbe.out.1 rfl
        go_wp2
        go_roundw
        case rel =>
          refine ⟨k + 1, by omega, by go_num, fun j hj => ?_, hb.trans hbw', hb0.later hbw', hb1.later hbw'⟩
          by_cases hjk : j = k
          · subst hjk; rw [Hx.out, Hy.out]
          · exact Hs.out j (by omega)
        case measure => simp [intOf]; omega
    · go_wp2
      go_ret
      refine ⟨_, rfl, ?_, hb⟩
      simp
      refine Nd.ext' H1.out H2.out H3.out (List.ext_getElem? fun j => ?_)
      by_cases hj : j < k
      · exact Hs.out j hj
      · rw [List.getElem?_eq_none (by omega), List.getElem?_eq_none (by have := H4.out; omega)]
end Go.Proofs.Ytbhmpbaembmlnaa
