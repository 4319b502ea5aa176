/- code.count, code.text. -/
import Derived.Test.YtbhmpbaembmlnaaE1
import Derived.Test.YtbhmpbaembmlnaaR0
set_option linter.unusedVariables false
namespace Go.Proofs.Ytbhmpbaembmlnaa
open Go.RowKit

set_option maxRecDepth 100000 in
set_option maxHeartbeats 1000000 in
theorem cCount (p B : Nat) (bs : List Int) (size most : Int) (at_ : Nat) (w : World) (h : RdAt w p B bs at_ (-1)) :
    Calls Try.prog 112 #[.pointer (some ⟨p, 0, none⟩), .int .i64 size, .int .i64 most] w (Reads p B bs (rdCount bs size most at_) (fun _ v x => v = .int .i64 x ∧ (Lit.int .i64 x).wf = true) w) := by
  have HRd := Lib.hid h
  obtain ⟨A, cap, hb, hcap, hrow, h1, h2, hpB, hBz⟩ := h
  obtain ⟨f0, f1⟩ := hb.rules
  have hz := hb.lt
  clear hrow
  go_enter Try.func112, Try.ntmps112
  go_wp2_with fail
  refine (cNumber p B bs at_ _ HRd.out).mono ?_
  rintro e w1 ⟨hg, hr⟩
  cases hn : rdNum bs at_ with
  | error b =>
    rw [hn] at hr
    obtain ⟨at', rfl, h', hbl⟩ := hr
    refine ⟨rfl, hg, ?_⟩
    rw [show rdCount bs size most at_ = .error b by simp [rdCount, hn]]
    exact ⟨at', rfl, h', hbl⟩
  | ok r =>
    obtain ⟨n, a⟩ := r
    rw [hn] at hr
    obtain ⟨v, rfl, ⟨rfl, hwf⟩, h'⟩ := hr
    have HRd2 := Lib.hid h'
    obtain ⟨A2, cap2, hb2, hcap2, -, h12, -, -⟩ := h'
    have hnn := Lib.hid hn
    clear f0 f1 hb hn hz
    obtain ⟨f0, f1⟩ := hb2.rules
    have hz := hb2.lt
    have Hr : Hid (rdCount bs size most at_ = if badCount bs size most n a then .error at_ else .ok (n, a)) := Lib.hid (by simp [rdCount, hnn.out])
    have hat : at_ ≤ bs.length := h1
    go_wp2_with fail
    cases e0 : decide (n < 0)
    · cases e1 : decide (most < n)
      · have hm : Hid (max size 1 = if size < 1 then 1 else size) := Lib.hid (by split <;> omega)
        cases e2 : decide (((bs.length : Int) - a) / (if size < 1 then 1 else size) < n)
        · have E := Lib.hid (And.intro e0 (And.intro e1 e2))
          go_quiet (fail)
          go_wp2
          all_goals
            go_ret
            rw [Hr.out, if_neg (by simp only [badCount, E.out.1, E.out.2.1, hm.out, E.out.2.2]; decide)]
            exact ⟨hg.drewN _, _, rfl, ⟨rfl, hwf⟩, HRd2.out⟩
        · have E := Lib.hid (And.intro e0 (And.intro e1 e2))
          go_quiet (fail)
          go_wp2
          all_goals
            refine ⟨rfl, hg.drewN _, ?_⟩
            rw [Hr.out, if_pos (by simp only [badCount, E.out.1, E.out.2.1, hm.out, E.out.2.2]; rfl)]
            exact ⟨_, rfl, HRd2.out, hat⟩
      · have E := Lib.hid (And.intro e0 e1)
        go_quiet (fail)
        go_wp2
        refine ⟨rfl, hg.drewN _, ?_⟩
        rw [Hr.out, if_pos (by simp only [badCount, E.out.1, E.out.2]; rfl)]
        exact ⟨_, rfl, HRd2.out, hat⟩
    · have E := Lib.hid e0
      go_quiet (fail)
      go_wp2
      refine ⟨rfl, hg.drewN _, ?_⟩
      rw [Hr.out, if_pos (by simp only [badCount, E.out]; rfl)]
      exact ⟨_, rfl, HRd2.out, hat⟩

theorem bytes_none {P : Program} (w : World) (src e : TypeId) (hs : P.underlying src = some (.slice e)) (he : P.underlying e = some (.int .u8)) (p : Option Addr) (c : Nat) :
    ∀ dst, P.underlying dst = some .string → (convert src dst (.slice p 0 c)).run P w = .ok (.string (strOfNums [])) w := by
  intro dst hd
  rw [run_convert_bytes_string w src dst e _ 0 c hs he hd]
  cases p <;> simp [Conv.bytesToString, loadCells]
  all_goals rfl
theorem strOfNums_size (xs : List Int) : (strOfNums xs).size = xs.length := by simp [strOfNums, ByteArray.size]

theorem rdCount_ok {bs : List Int} {size most : Int} {at_ a : Nat} {n : Int} (h : rdCount bs size most at_ = .ok (n, a)) (ha : a ≤ bs.length) : 0 ≤ n ∧ n ≤ most ∧ n ≤ (bs.length : Int) - a := by
  unfold rdCount at h
  cases hn : rdNum bs at_ with
  | error b => simp [hn] at h
  | ok r =>
    obtain ⟨m, a'⟩ := r
    simp only [hn] at h
    split at h
    · cases h
    · rename_i hb
      injection h with h
      injection h with h1 h2
      subst h1; subst h2
      simp only [badCount, Bool.or_eq_true, decide_eq_true_eq, not_or, Int.not_lt] at hb
      obtain ⟨b1, b2, b3⟩ := hb
      refine ⟨b1, b2, Int.le_trans b3 (Int.ediv_le_self _ (by omega))⟩

set_option maxRecDepth 100000 in
set_option maxHeartbeats 1000000 in
theorem cText (p B : Nat) (bs : List Int) (at_ : Nat) (w : World) (h : RdAt w p B bs at_ (-1)) :
    Calls Try.prog 105 #[.pointer (some ⟨p, 0, none⟩)] w (Reads p B bs (rdText bs at_) (fun _ v x => v = .string x ∧ x.size ≤ maxLen) w) := by
  have HRd := Lib.hid h
  obtain ⟨A, cap, hb, hcap, hrow, h1, h2, hpB, hBz⟩ := h
  obtain ⟨f0, f1⟩ := hb.rules
  have hz := hb.lt
  clear hrow
  go_enter Try.func105, Try.ntmps105
  go_wp2_with fail
  refine (cCount p B bs 1 bs.length at_ _ HRd.out).mono ?_
  rintro e w1 ⟨hg, hr⟩
  cases hn : rdCount bs 1 bs.length at_ with
  | error b =>
    rw [hn] at hr
    obtain ⟨at', rfl, h', hbl⟩ := hr
    refine ⟨rfl, hg, ?_⟩
    rw [show rdText bs at_ = .error b by simp [rdText, hn]]
    exact ⟨at', rfl, h', hbl⟩
  | ok r =>
    obtain ⟨n, a⟩ := r
    rw [hn] at hr
    obtain ⟨v, rfl, ⟨rfl, hwf⟩, h'⟩ := hr
    have HRd2 := Lib.hid h'
    have ha : a ≤ bs.length := by obtain ⟨_, _, _, _, _, h, _⟩ := h'; exact h
    obtain ⟨n0, n1, n2⟩ := rdCount_ok hn ha
    obtain ⟨k, rfl⟩ : ∃ k : Nat, n = k := ⟨n.toNat, by omega⟩
    have Hr : Hid (rdText bs at_ = .ok (strOfNums ((bs.drop a).take k), a + k)) := Lib.hid (by simp [rdText, hn])
    have Ht : Hid (rdTake bs k a = .ok ((bs.drop a).take k, a + k)) := Lib.hid (by unfold rdTake; rw [if_neg (by omega)])
    clear hn f0 f1 hb
    go_wp2_with fail
    refine (cTake p B bs a k _ HRd2.out (by omega)).mono ?_
    rintro e w2 ⟨hg2, hr⟩
    rw [Ht.out] at hr
    obtain ⟨v, rfl, hs, h'⟩ := hr
    obtain ⟨l, hl⟩ : ∃ l, (bs.drop a).take k = l := ⟨_, rfl⟩
    rw [hl] at Hr hs
    obtain ⟨A2, cap2, rfl, hcap2, hrow2⟩ := hs
    have hconv : (convert 36 9 (.slice A2 l.length cap2)).run Try.prog w2 = .ok (.string (strOfNums l)) w2 := by
      by_cases hl0 : l = []
      · subst hl0
        exact bytes_none w2 36 5 Try.underlying36 Try.underlying5 A2 cap2 9 Try.underlying9
      · obtain ⟨g, off, rfl, -, -, -⟩ := hrow2 hl0
        exact run_convert_bytes_arg w2 36 5 Try.underlying36 Try.underlying5 g off l.length cap2 l rfl (fun i hi => by
          obtain ⟨x, hx⟩ := get_some hi
          rw [(row_byte hrow2 hx).1, List.getD_eq_getElem?_getD, hx]
          rfl) 9 Try.underlying9
    have Hsz : Hid ((strOfNums l).size ≤ maxLen) := Lib.hid (by rw [strOfNums_size]; have := congrArg List.length hl; rw [List.length_take, List.length_drop] at this; unfold maxLen; omega)
    have HC := Lib.hid hconv
    clear hrow2 hl Ht HC
    go_wp2
    go_ret
    rw [Hr.out]
    exact ⟨hg.trans hg2, _, rfl, ⟨rfl, Hsz.out⟩, h'⟩
end Go.Proofs.Ytbhmpbaembmlnaa
