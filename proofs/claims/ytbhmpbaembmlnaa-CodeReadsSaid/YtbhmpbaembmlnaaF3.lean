/- The document's readers: Small, Count, Text, End. -/
import Derived.Test.YtbhmpbaembmlnaaF2
set_option linter.unusedVariables false
namespace Go.Proofs.Ytbhmpbaembmlnaa
open Go.RowKit

set_option maxRecDepth 100000 in
set_option maxHeartbeats 2000000 in
theorem rSmall (q B : Nat) (bs : List Int) (m : Int) (st : Rs) (w : World) (h : RfSt w q B bs m st) :
    Calls Try.prog 31 #[.pointer (some ⟨q, 0, none⟩)] w (RfReads q B bs m (asked (rdSmall bs) 0 st).2 (.int .i8 (asked (rdSmall bs) 0 st).1) w) := by
  have H := Lib.hid h
  cases st with
  | error b =>
    obtain ⟨hbl, a, h⟩ := h
    obtain ⟨A, cp, hbk, hcap, hrow, h1, h2, hpB, hBz⟩ := h
    obtain ⟨f0, f1⟩ := hbk.rules
    have hz := hbk.lt
    clear hrow
    go_enter Try.func31, Try.ntmps31
    go_wp2
    go_ret
    exact ⟨rfl, H.out, Trn.refl _ _⟩
  | ok a =>
    have h0 := h
    obtain ⟨A, cp, hbk, hcap, hrow, h1, h2, hpB, hBz⟩ := h
    obtain ⟨f0, f1⟩ := hbk.rules
    have hz := hbk.lt
    by_cases hc : bs.length < a + 1
    · have d1 : decide ((bs.length : Int) ≤ a) = true := by simp; omega
      have Hr : Hid (asked (rdSmall bs) 0 (.ok a) = (0, .error bs.length)) := Lib.hid (by simp [asked, rdSmall, hc])
      clear hrow
      go_enter Try.func31, Try.ntmps31
      go_wp2_with fail
      go_quiet (fail)
      go_wp2_with fail
      refine (rFails q B bs a bs.length m _ (H.out.keep ((Fr.refl w).drewN _)) (Nat.le_refl _)).mono ?_
      rintro e w1 ⟨rfl, hR, hT⟩
      have HR := Lib.hid hR
      have HT := Lib.hid hT
      clear hR hT
      go_wp2
      go_ret
      rw [Hr.out]
      exact ⟨rfl, HR.out, ((Trn.refl _ _).drewN _).trans HT.out⟩
    · have d1 : decide ((bs.length : Int) ≤ a) = false := by simp; omega
      have Hr : Hid (asked (rdSmall bs) 0 (.ok a) = (IntKind.i8.wrap (bs.getD a 0), .ok (a + 1))) := Lib.hid (by simp [asked, rdSmall, hc])
      obtain ⟨y, hy⟩ := get_some (l := bs) (k := a) (by omega)
      have Hd : Hid (bs.getD a 0 = y) := Lib.hid (by simp [hy])
      have Hrow := Lib.hid hrow
      obtain ⟨g, off, rfl, hg', hgl, -⟩ := hrow (by intro e; subst e; simp at hc)
      obtain ⟨hx1, hx2, hx3⟩ := row_byte Hrow.out hy
      have hgq : g ≠ q := hg'.2
      have hgq' : q ≠ g := fun e => hgq e.symm
      have e1 : IntKind.i64.wrap ((a : Int) + 1 - 1) = a := by rw [wrap_small _ (by omega) (by omega)]; omega
      have e2 : (0 : Int) ≤ a := by omega
      have e4 : a < bs.length := by omega
      clear hrow hy
      have Hset := Lib.hid (RfAt.set1 (H.out : RfAt w q B bs a (-1) m) (at2 := a + 1) (by omega))
      go_enter Try.func31, Try.ntmps31
      go_wp2_with fail
      go_quiet (fail)
      go_wp2_with fail
      go_quiet (fail)
      go_wp2
      go_ret
      rw [Hr.out, Hd.out]
      exact ⟨rfl, Hset.out, (((Trn.refl _ _).drewN _).setp _ _).drewN _⟩

set_option maxRecDepth 100000 in
set_option maxHeartbeats 2000000 in
theorem rCount (q B : Nat) (bs : List Int) (size most : Int) (m : Int) (st : Rs) (w : World) (h : RfSt w q B bs m st) :
    Calls Try.prog 40 #[.pointer (some ⟨q, 0, none⟩), .int .i64 size, .int .i64 most] w (RfReads q B bs m (asked (rdCount bs size most) 0 st).2 (.int .i64 (asked (rdCount bs size most) 0 st).1) w) := by
  have H := Lib.hid h
  have hst : ∃ (a : Nat) (bad : Int), RfAt w q B bs a bad m ∧ (∀ c, st = .ok c → c = a) := by
    cases st with
    | ok a => exact ⟨a, _, h, fun c e => by injection e with e; exact e.symm⟩
    | error b => exact h.2.elim fun a ha => ⟨a, _, ha, fun c e => by cases e⟩
  obtain ⟨a, bad, ⟨A, cp, hbk, hcap, hrow, h1, h2, hpB, hBz⟩, hst⟩ := hst
  obtain ⟨f0, f1⟩ := hbk.rules
  have hz := hbk.lt
  clear hrow h
  go_enter Try.func40, Try.ntmps40
  go_wp2_with fail
  refine (rNumber q B bs m st _ H.out).mono ?_
  rintro e w1 ⟨rfl, hR, hT⟩
  have HR := Lib.hid hR
  have HT := Lib.hid hT
  clear f0 f1 hT
  cases hn : asked (rdNum bs) 0 st with
  | mk x s1 =>
  rw [hn] at hR HR
  cases s1 with
  | error b =>
    have Hr : Hid (asked (rdCount bs size most) 0 st = (0, .error b)) := Lib.hid (by
      cases st with
      | error b' => simp [asked] at hn ⊢; exact hn.2
      | ok c =>
        unfold asked at hn ⊢
        unfold rdCount
        cases hc : rdNum bs c with
        | error b' => simp [hc] at hn ⊢; exact hn.2
        | ok r => obtain ⟨y, c'⟩ := r; simp [hc] at hn)
    obtain ⟨hbl, a1, hR⟩ := hR
    obtain ⟨A1, cp1, hb1, hcap1, -, h11, -, -, -⟩ := hR
    obtain ⟨f0, f1⟩ := hb1.rules
    have hz1 := hb1.lt
    have Hn := Lib.hid hn
    clear hn
    go_wp2
    go_ret
    rw [Hr.out]
    exact ⟨rfl, HR.out, HT.out⟩
  | ok a1 =>
    obtain ⟨c, rfl⟩ : ∃ c, st = .ok c := by
      cases st with
      | error b' => simp [asked] at hn
      | ok c => exact ⟨c, rfl⟩
    obtain rfl := hst c rfl
    have hnum : rdNum bs c = .ok (x, a1) := by
      unfold asked at hn
      cases hc : rdNum bs c with
      | error b' => simp [hc] at hn
      | ok r => obtain ⟨y, c'⟩ := r; simp [hc] at hn; simp [hn]
    have Hr : Hid (asked (rdCount bs size most) 0 (.ok c) = if badCount bs size most x a1 then (0, .error c) else (x, .ok a1)) := Lib.hid (by
      unfold asked rdCount
      simp only [hnum]
      cases badCount bs size most x a1 <;> rfl)
    obtain ⟨A1, cp1, hb1, hcap1, -, h11, -, -, -⟩ := hR
    obtain ⟨f0, f1⟩ := hb1.rules
    have hz1 := hb1.lt
    clear hn hnum
    have hm : Hid (max size 1 = if size < 1 then 1 else size) := Lib.hid (by split <;> omega)
    have hbad : ∀ (bb : Bool), badCount bs size most x a1 = bb → Hid (badCount bs size most x a1 = bb) := fun _ h => Lib.hid h
    go_wp2_with fail
    cases e0 : decide (x < 0)
    · cases e1 : decide (most < x)
      · cases e2 : decide (((bs.length : Int) - a1) / (if size < 1 then 1 else size) < x)
        · have E := hbad false (by simp only [badCount, e0, e1, hm.out, e2]; rfl)
          clear hbad
          go_quiet (fail)
          go_wp2
          all_goals
            go_ret
            rw [Hr.out, if_neg (by rw [E.out]; decide)]
            exact ⟨rfl, HR.out, HT.out.drewN _⟩
        · have E := hbad true (by simp only [badCount, e0, e1, hm.out, e2]; rfl)
          clear hbad
          go_quiet (fail)
          go_wp2_with fail
          all_goals
            refine (rFails q B bs a1 c m _ (RfAt.keep HR.out ((Fr.refl w1).drewN _)) h1).mono ?_
            rintro e w2 ⟨rfl, hR2, hT2⟩
            have HR2 := Lib.hid hR2
            have HT2 := Lib.hid hT2
            clear hR2 hT2
            go_wp2
            go_ret
            rw [Hr.out, if_pos E.out]
            exact ⟨rfl, HR2.out, (HT.out.drewN _).trans HT2.out⟩
      · have E := hbad true (by simp only [badCount, e0, e1]; rfl)
        clear hbad
        go_quiet (fail)
        go_wp2_with fail
        refine (rFails q B bs a1 c m _ (RfAt.keep HR.out ((Fr.refl w1).drewN _)) h1).mono ?_
        rintro e w2 ⟨rfl, hR2, hT2⟩
        have HR2 := Lib.hid hR2
        have HT2 := Lib.hid hT2
        clear hR2 hT2
        go_wp2
        go_ret
        rw [Hr.out, if_pos E.out]
        exact ⟨rfl, HR2.out, (HT.out.drewN _).trans HT2.out⟩
    · have E := hbad true (by simp only [badCount, e0]; rfl)
      clear hbad
      go_quiet (fail)
      go_wp2_with fail
      refine (rFails q B bs a1 c m _ (RfAt.keep HR.out ((Fr.refl w1).drewN _)) h1).mono ?_
      rintro e w2 ⟨rfl, hR2, hT2⟩
      have HR2 := Lib.hid hR2
      have HT2 := Lib.hid hT2
      clear hR2 hT2
      go_wp2
      go_ret
      rw [Hr.out, if_pos E.out]
      exact ⟨rfl, HR2.out, (HT.out.drewN _).trans HT2.out⟩

set_option maxRecDepth 100000 in
set_option maxHeartbeats 1000000 in
theorem rEnd (q B : Nat) (bs : List Int) (m : Int) (st : Rs) (w : World) (h : RfSt w q B bs m st) :
    Calls Try.prog 42 #[.pointer (some ⟨q, 0, none⟩)] w fun e w' => e = .returned (.tuple #[.int .i64 (ended bs st).1, .int .i64 (ended bs st).2]) ∧ Fr w w' := by
  cases st with
  | error b =>
    obtain ⟨hbl, a, h⟩ := h
    obtain ⟨A, cp, hb, hcap, hrow, h1, h2, hpB, hBz⟩ := h
    obtain ⟨f0, f1⟩ := hb.rules
    have hz := hb.lt
    clear hrow
    go_enter Try.func42, Try.ntmps42
    go_wp2
    go_ret2
    exact ⟨rfl, Fr.refl w⟩
  | ok a =>
    obtain ⟨A, cp, hb, hcap, hrow, h1, h2, hpB, hBz⟩ := h
    obtain ⟨f0, f1⟩ := hb.rules
    have hz := hb.lt
    clear hrow
    by_cases hlt : a < bs.length
    · have d1 : decide ((a : Int) < bs.length) = true := by simp; omega
      have He : Hid (ended bs (.ok a) = ((a : Int), 30)) := Lib.hid (by simp [ended, hlt])
      go_enter Try.func42, Try.ntmps42
      go_wp2_with fail
      go_quiet (fail)
      go_wp2
      go_ret2
      rw [He.out]
      exact ⟨rfl, (Fr.refl w).drewN _⟩
    · have d1 : decide ((a : Int) < bs.length) = false := by simp; omega
      have He : Hid (ended bs (.ok a) = (0, 0)) := Lib.hid (by simp [ended, hlt])
      go_enter Try.func42, Try.ntmps42
      go_wp2_with fail
      go_quiet (fail)
      go_wp2
      go_ret2
      rw [He.out]
      exact ⟨rfl, (Fr.refl w).drewN _⟩
end Go.Proofs.Ytbhmpbaembmlnaa
