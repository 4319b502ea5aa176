/- code.take, code.number, code.small. -/
import Derived.Test.YtbhmpbaembmlnaaE0
set_option linter.unusedVariables false
namespace Go.Proofs.Ytbhmpbaembmlnaa
open Go.RowKit

set_option maxRecDepth 100000 in
set_option maxHeartbeats 1000000 in
theorem cTake (p B : Nat) (bs : List Int) (at_ n : Nat) (w : World) (h : RdAt w p B bs at_ (-1)) (hn : n ≤ 1000000) :
    Calls Try.prog 163 #[.pointer (some ⟨p, 0, none⟩), .int .i64 n] w (Reads p B bs (rdTake bs n at_) (fun w' v xs => Sl elB w' (· ≠ p) v xs) w) := by
  have HRd := Lib.hid h
  obtain ⟨A, cap, hb, hcap, hrow, h1, h2, hpB, hBz⟩ := h
  obtain ⟨f0, f1⟩ := hb.rules
  have hz := hb.lt
  by_cases hc : bs.length < at_ + n
  · have d1 : decide ((bs.length : Int) - at_ < n) = true := by simp; omega
    have Hr : Hid (rdTake bs n at_ = .error bs.length) := Lib.hid (by simp [rdTake, hc])
    clear hrow
    go_enter Try.func163, Try.ntmps163
    go_wp2_with fail
    go_quiet (fail)
    go_wp2
    rw [Hr.out]
    exact ⟨rfl, (RTrn.refl _ _).drewN _, at_, rfl, HRd.out, Nat.le_refl _⟩
  · have d1 : decide ((bs.length : Int) - at_ < n) = false := by simp; omega
    have Hr : Hid (rdTake bs n at_ = .ok ((bs.drop at_).take n, at_ + n)) := Lib.hid (by simp [rdTake, hc])
    have hlen : ((bs.drop at_).take n).length = n := by simp; omega
    have Hlen := Lib.hid hlen
    have HR := Lib.hid hrow
    have hat : at_ + n ≤ bs.length := by omega
    clear hrow hlen
    by_cases hn0 : n = 0
    · subst hn0
      go_enter Try.func163, Try.ntmps163
      go_wp2_with fail
      go_quiet (fail)
      go_wp2
      go_quiet (fail)
      go_wp2
      all_goals
        go_ret
        rw [Hr.out]
        exact ⟨(((RTrn.refl _ _).drewN _).set1 _).drewN _, _, rfl, ⟨_, _, rfl, Nat.le_refl _, Row.nil _ _ _ _⟩, RdAt.set1 (HRd.out) hat⟩
    · have hbs : bs ≠ [] := by rintro rfl; simp at hc; omega
      obtain ⟨g, off, rfl, hg, hgl, -⟩ := HR.out hbs
      have Hs : Hid (Sl elB w (· ≠ p) (.slice (some ⟨g, off + at_, none⟩) (at_ + n - at_) (at_ + n - at_)) ((bs.drop at_).take n)) := by
        have hk := (HR.out.drop at_).take n
        have he : at_ * elB.size = at_ := Nat.mul_one _
        rw [he] at hk
        exact Lib.hid ⟨_, _, by rw [Hlen.out, show at_ + n - at_ = n by omega], by rw [Hlen.out]; omega, hk.mono fun k hk _ => hk.2⟩
      go_enter Try.func163, Try.ntmps163
      go_wp2_with fail
      go_quiet (fail)
      go_wp2
      go_quiet (fail)
      go_wp2
      go_ret
      rw [Hr.out]
      exact ⟨(((RTrn.refl _ _).drewN _).set1 _).drewN _, _, rfl, Hs.out.keep ((Keeps.refl _ w).set (fun h => h rfl) 1 _) (by simp), RdAt.set1 (HRd.out) hat⟩

theorem row_byte {w : World} {S : Nat → Prop} {g off : Nat} {xs : List Int} (h : Row elB w S (some ⟨g, off, none⟩) xs) {k : Nat} {x : Int} (hx : xs[k]? = some x) :
    w.cell? ⟨g, off + k, none⟩ = some (.int .u8 x) ∧ 0 ≤ x ∧ x ≤ 255 := by
  obtain ⟨g', off', cs, hA, -, -, hc, hr, hw⟩ := h.get hx
  injection hA with hA; injection hA with h1 h2; subst h1; subst h2; subst hr
  have := hc 0 _ rfl
  rw [show off + k * elB.size + 0 = off + k by show off + k * 1 + 0 = _; omega] at this
  exact ⟨this, bounds_u8 hw⟩

theorem fold_take {xs : List Int} {k : Nat} {x m : Int} (h : xs[k]? = some x) (hm : m = (xs.take k).foldl numStep 0) : numStep m x = (xs.take (k + 1)).foldl numStep 0 := by
  subst hm
  rw [List.take_add_one, h]
  simp

set_option maxRecDepth 100000 in
set_option maxHeartbeats 1000000 in
theorem cNumber (p B : Nat) (bs : List Int) (at_ : Nat) (w : World) (h : RdAt w p B bs at_ (-1)) :
    Calls Try.prog 100 #[.pointer (some ⟨p, 0, none⟩)] w (Reads p B bs (rdNum bs at_) (fun _ v x => v = .int .i64 x ∧ (Lit.int .i64 x).wf = true) w) := by
  have HRd := Lib.hid h
  clear h
  by_cases hc : bs.length < at_ + 8
  · have Hr : Hid (rdTake bs 8 at_ = .error bs.length) := Lib.hid (by simp [rdTake, hc])
    have Hr2 : Hid (rdNum bs at_ = .error bs.length) := Lib.hid (by simp [rdNum, hc])
    go_enter Try.func100, Try.ntmps100
    go_wp2_with fail
    refine (cTake p B bs at_ 8 _ HRd.out (by decide)).mono ?_
    rintro e w1 ⟨hg, hr⟩
    rw [Hr.out] at hr
    obtain ⟨at', rfl, h'⟩ := hr
    refine ⟨rfl, ?_⟩
    rw [Hr2.out]
    exact ⟨hg, at', rfl, h'⟩
  · have Hr : Hid (rdTake bs 8 at_ = .ok ((bs.drop at_).take 8, at_ + 8)) := Lib.hid (by simp [rdTake, hc])
    have Hr2 : Hid (rdNum bs at_ = .ok (num ((bs.drop at_).take 8), at_ + 8)) := Lib.hid (by simp [rdNum, hc])
    go_enter Try.func100, Try.ntmps100
    go_wp2_with fail
    refine (cTake p B bs at_ 8 _ HRd.out (by decide)).mono ?_
    rintro e w1 ⟨hg, hr⟩
    rw [Hr.out] at hr
    obtain ⟨v, rfl, hs, h'⟩ := hr
    obtain ⟨A, cap, rfl, hcap, hrow⟩ := hs
    obtain ⟨l, hl⟩ : ∃ l, (bs.drop at_).take 8 = l := ⟨_, rfl⟩
    have hlen : l.length = 8 := by rw [← hl]; simp; omega
    rw [hl] at Hr2 hrow ⊢
    obtain ⟨g, off, rfl, hg', hgl, -⟩ := hrow (by intro e; rw [e] at hlen; simp at hlen)
    rw [hlen]
    have Hlen := Lib.hid hlen
    clear hcap hlen hl Hr hc
    go_wp2_with fail
    go_loopw [3, 5, 9] (fun n x i wr => ∃ (k : Nat) (m : Int), k ≤ 8 ∧ i = .int .i64 k ∧ n = .int .u64 m ∧ Hid (m = (l.take k).foldl numStep 0) ∧ wr = w1) (fun _ _ i _ => 8 - (intOf i).toNat)
    case atStart => exact ⟨0, 0, by omega, rfl, rfl, Lib.hid rfl, rfl⟩
    case round =>
      obtain ⟨k, m, hk, rfl, rfl, Hm, rfl⟩ := hrel
      by_cases hk8 : k < 8
      · obtain ⟨x, hx⟩ := get_some (l := l) (k := k) (by have := Hlen.out; omega)
        obtain ⟨hx1, hx2, hx3⟩ := row_byte hrow hx
        have Hf := Lib.hid (fold_take hx Hm.out)
        clear hx
        go_wp2
        go_roundw
        case rel => exact ⟨k + 1, _, by omega, by go_num, rfl, Hf, trivial⟩
        case measure => simp [intOf]; omega
      · obtain rfl : k = 8 := by omega
        have Hw : Hid (wrap64 m = num l) := by
          have := Hm.out
          rw [List.take_of_length_le (by have := Hlen.out; omega)] at this
          exact Lib.hid (by rw [this]; rfl)
        go_wp2
        go_ret
        rw [Hr2.out]
        refine ⟨hg, _, rfl, ⟨congrArg (Value.int .i64) Hw.out, ?_⟩, h'⟩
        rw [← Hw.out]
        exact wrap64_wf _

set_option maxRecDepth 100000 in
set_option maxHeartbeats 1000000 in
theorem cSmall (p B : Nat) (bs : List Int) (at_ : Nat) (w : World) (h : RdAt w p B bs at_ (-1)) :
    Calls Try.prog 103 #[.pointer (some ⟨p, 0, none⟩)] w (Reads p B bs (rdSmall bs at_) (fun _ v x => v = .int .i8 x ∧ (Lit.int .i8 x).wf = true) w) := by
  have HRd := Lib.hid h
  clear h
  by_cases hc : bs.length < at_ + 1
  · have Hr : Hid (rdTake bs 1 at_ = .error bs.length) := Lib.hid (by simp [rdTake, hc])
    have Hr2 : Hid (rdSmall bs at_ = .error bs.length) := Lib.hid (by simp [rdSmall, hc])
    go_enter Try.func103, Try.ntmps103
    go_wp2_with fail
    refine (cTake p B bs at_ 1 _ HRd.out (by decide)).mono ?_
    rintro e w1 ⟨hg, hr⟩
    rw [Hr.out] at hr
    obtain ⟨at', rfl, h'⟩ := hr
    refine ⟨rfl, ?_⟩
    rw [Hr2.out]
    exact ⟨hg, at', rfl, h'⟩
  · have Hr : Hid (rdTake bs 1 at_ = .ok ((bs.drop at_).take 1, at_ + 1)) := Lib.hid (by simp [rdTake, hc])
    have Hr2 : Hid (rdSmall bs at_ = .ok (IntKind.i8.wrap (bs.getD at_ 0), at_ + 1)) := Lib.hid (by simp [rdSmall, hc])
    obtain ⟨x, hx⟩ := get_some (l := bs) (k := at_) (by omega)
    have hl : (bs.drop at_).take 1 = [x] := by
      rw [List.drop_eq_getElem_cons (by omega)]
      rw [List.getElem?_eq_getElem (by omega)] at hx
      injection hx with hx
      simp [hx]
    have Hd : Hid (bs.getD at_ 0 = x) := Lib.hid (by simp [hx])
    rw [hl] at Hr
    clear hl hx
    go_enter Try.func103, Try.ntmps103
    go_wp2_with fail
    refine (cTake p B bs at_ 1 _ HRd.out (by decide)).mono ?_
    rintro e w1 ⟨hg, hr⟩
    rw [Hr.out] at hr
    obtain ⟨v, rfl, hs, h'⟩ := hr
    obtain ⟨A, cap, rfl, hcap, hrow⟩ := hs
    obtain ⟨g, off, rfl, hg', hgl, -⟩ := hrow (by simp)
    obtain ⟨hx1, hx2, hx3⟩ := row_byte hrow (k := 0) (x := x) rfl
    rw [Nat.add_zero] at hx1
    simp only [List.length_cons, List.length_nil, Nat.zero_add]
    go_wp2
    go_ret
    rw [Hr2.out, Hd.out]
    exact ⟨hg, _, rfl, ⟨rfl, wf_wrap .i8 _⟩, h'⟩
end Go.Proofs.Ytbhmpbaembmlnaa
