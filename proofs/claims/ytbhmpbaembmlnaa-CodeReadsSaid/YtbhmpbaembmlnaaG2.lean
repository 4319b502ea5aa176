/- allotmentlaw03.CodeReads. -/
import Derived.Test.YtbhmpbaembmlnaaG1
import Derived.Test.YtbhmpbaembmlnaaA4
set_option linter.unusedVariables false
namespace Go.Proofs.Ytbhmpbaembmlnaa
open Go.RowKit

abbrev elI : El Int := elInt .i64
theorem row_num {w : World} {S : Nat → Prop} {A : Option Addr} {xs : List Int} (h : Row elI w S A xs) {k : Nat} {x : Int} (hx : xs[k]? = some x) :
    ∃ g off, A = some ⟨g, off, none⟩ ∧ S g ∧ g < w.heap.size ∧ w.cell? ⟨g, off + k, none⟩ = some (.int .i64 x) ∧ (Lit.int .i64 x).wf = true := by
  obtain ⟨g, off, cs, hA, hg, hl, hc, hr, hw⟩ := h.get hx
  subst hr
  refine ⟨g, off, hA, hg, hl, ?_, hw⟩
  have := hc 0 _ rfl
  rwa [show off + k * elI.size + 0 = off + k by show off + k * 1 + 0 = _; omega] at this

/-- Both readers, where one is. -/
structure Both (w W : World) (p B q B' : Nat) (bs : List Int) (st : Rs) (m : Int) : Prop where
  P : PubAt W p B bs st
  R : RfSt W q B' bs m st
  F : Fr w W
  pl : w.heap.size ≤ p
  ql : w.heap.size ≤ q
  ne : p ≠ q

theorem Both.keep {w W W' : World} {p B q B' : Nat} {bs : List Int} {st : Rs} {m : Int} (h : Both w W p B q B' bs st m) (hF : Fr W W') : Both w W' p B q B' bs st m :=
  ⟨h.P.keep hF, h.R.keep hF, h.F.trans hF, h.pl, h.ql, h.ne⟩
/-- One reads, then the other one: both to the same place. -/
theorem Both.next {w W W1 W2 : World} {p B q B' : Nat} {bs : List Int} {st st' : Rs} {m m' : Int} (h : Both w W p B q B' bs st m) (h1 : PubAt W1 p B bs st') (hT1 : Trn (· = p) W W1)
    (h2 : RfSt W2 q B' bs m' st') (hT2 : Trn (· = q) W1 W2) : Both w W2 p B q B' bs st' m' := by
  have := h.pl; have := h.ql
  have hR1 := h.R.other h.P.noByte (Ne.symm h.ne) hT1
  exact ⟨h1.other hR1.noByte h.ne hT2, h2, Trn.fr (Trn.fr h.F hT1 (fun i hi e => by omega)) hT2 (fun i hi e => by omega), h.pl, h.ql, h.ne⟩
theorem Both.mid {w W W1 : World} {p B q B' : Nat} {bs : List Int} {st : Rs} {m : Int} (h : Both w W p B q B' bs st m) (hT1 : Trn (· = p) W W1) : RfSt W1 q B' bs m st := h.R.other h.P.noByte (Ne.symm h.ne) hT1

theorem asked_steps_len {bs : List Int} {st s : Rs} {ys : List Stp} (h : asked (rdSteps bs) [] st = (ys, s)) : ys.length ≤ 60 := by
  cases s with
  | error b => rw [(asked_bad h).1]; simp
  | ok a =>
    obtain ⟨a0, -, h2⟩ := asked_ok h
    unfold rdSteps at h2
    cases hc : rdCount bs 57 60 a0 with
    | error b => simp [hc] at h2
    | ok r =>
      obtain ⟨n, a1⟩ := r
      simp only [hc] at h2
      rw [rdList_len h2]
      unfold rdCount at hc
      cases hn : rdNum bs a0 with
      | error b => simp [hn] at hc
      | ok r =>
        obtain ⟨n', a'⟩ := r
        simp only [hn] at hc
        split at hc
        · cases hc
        · rename_i hb
          injection hc with hc; injection hc with e1 e2; subst e1
          simp only [badCount, Bool.or_eq_true, decide_eq_true_eq, not_or, Int.not_lt] at hb
          omega

theorem fr_trn {a b : World} {p : Nat} (hF : Fr a b) : Trn (· = p) a b := Trn.of_fr hF

set_option maxRecDepth 100000 in
set_option maxHeartbeats 8000000 in
theorem lawReads (bs ts : List Int) (size most : Int) (v1 v2 : Value) (w : World) (h1 : SlT elB w v1 bs) (h2 : SlT elI w v2 ts) (hb : bs.length ≤ 9223372036854775807) (ht : ts.length ≤ 9223372036854775807) :
    Calls Try.prog 5 #[v1, v2, .int .i64 size, .int .i64 most] w fun e w' => e = .returned (.bool true) ∧ Fr w w' := by
  have H1 := Lib.hid h1
  obtain ⟨A1, cap1, rfl, hc1, -⟩ := h1
  obtain ⟨A2, cap2, rfl, hc2, hr2⟩ := h2
  have H2 := Lib.hid hr2
  clear hr2
  by_cases hgreat : 20000 < bs.length ∨ 60 < ts.length ∨ size < 1
  · have hcase : (decide ((20000 : Int) < bs.length) = true) ∨ (decide ((20000 : Int) < bs.length) = false ∧ decide ((60 : Int) < ts.length) = true) ∨ (decide ((20000 : Int) < bs.length) = false ∧ decide ((60 : Int) < ts.length) = false ∧ decide (size < 1) = true) := by
      by_cases a : 20000 < bs.length
      · left; simp; omega
      · right
        by_cases b : 60 < ts.length
        · left; exact ⟨by simp; omega, by simp; omega⟩
        · right; exact ⟨by simp; omega, by simp; omega, by simp; omega⟩
    rcases hcase with e0 | ⟨e0, e1⟩ | ⟨e0, e1, e2⟩
    all_goals
      go_enter Try.func5, Try.ntmps5
      go_wp2_with fail
      refine (wakes25 _).mono ?_
      rintro e w1 ⟨rfl, hF⟩
      have HF := Lib.hid hF
      clear hF
      go_wp2
      go_ret
      exact ⟨rfl, HF.out⟩
  · have e0 : decide ((20000 : Int) < bs.length) = false := by simp; omega
    have e1 : decide ((60 : Int) < ts.length) = false := by simp; omega
    have e2 : decide (size < 1) = false := by simp; omega
    have hbl : bs.length ≤ 1000000 := by omega
    have htl : ts.length ≤ 60 := by omega
    have Hb := Lib.hid hbl
    clear hgreat hb
    go_enter Try.func5, Try.ntmps5
    go_wp2_with fail
    refine (cNew bs _ _ H1.out Hb.out).mono ?_
    rintro e w1 ⟨p, B, rfl, hP, hp, hF⟩
    have HP := Lib.hid hP
    have HF := Lib.hid hF
    clear hP hF
    go_wp2_with fail
    refine (rNew bs _ _ (H1.out.later HF.out) Hb.out).mono ?_
    rintro e w2 ⟨q, B', rfl, hR, hq, hF⟩
    have hpl := HP.out.lt
    have HB : Hid (Both w w2 p B q B' bs (.ok 0) 0) := Lib.hid ⟨HP.out.keep hF, hR, HF.out.trans hF, hp, Nat.le_trans HF.out.size hq, by omega⟩
    clear hR hF HP HF e0 e1 e2
    go_wp2_with fail
    go_loopw [49] (fun i wr => ∃ (k : Nat) (st : Rs) (m : Int), k ≤ ts.length ∧ i = .int .i64 k ∧ Hid (Both w wr p B q B' bs st m)) (fun i _ => ts.length - (intOf i).toNat)
    case atStart => exact ⟨0, .ok 0, 0, Nat.zero_le _, rfl, HB⟩
    case round =>
      obtain ⟨k, st, m, hk, rfl, HB⟩ := hrel
      by_cases hlt : k < ts.length
      · obtain ⟨x, hx⟩ := get_some hlt
        obtain ⟨g, off, rfl, -, hgl, hcell, hwf⟩ := row_num (H2.out.keep HB.out.F.keeps.all HB.out.F.size) hx
        clear hx
        -- what stands behind each reading
        by_cases c0 : x = 0
        · subst c0
          go_wp2_with fail
          refine (pNumber p B bs st _ HB.out.P).mono ?_
          rintro e w3 ⟨y, hy, rfl, -, hP3, hT3⟩
          have HP3 := Lib.hid hP3
          have HT3 := Lib.hid hT3
          have Hy := Lib.hid hy
          clear hy hP3 hT3
          go_wp2_with fail
          refine (rNumber q B' bs m st _ (HB.out.mid HT3.out)).mono ?_
          rintro e w4 ⟨rfl, hR4, hT4⟩
          have HB4 := Lib.hid (HB.out.next HP3.out HT3.out hR4 hT4)
          clear hR4 hT4
          rw [← Hy.out]
          go_wp2_with fail
          refine (pEnd p B bs _ _ HB4.out.P).mono ?_
          rintro e w5 ⟨rfl, hF5⟩
          have HB5 := Lib.hid (HB4.out.keep hF5)
          clear hF5
          obtain ⟨r1, hr1⟩ : ∃ r, ended bs (asked (rdNum bs) 0 st).2 = r := ⟨_, rfl⟩
          rw [hr1]
          have Hr1 := Lib.hid hr1
          clear hr1
          go_wp2_with fail
          refine (rEnd q B' bs m _ _ HB5.out.R).mono ?_
          rintro e w6 ⟨rfl, hF6⟩
          rw [Hr1.out]
          have HB6 := Lib.hid (HB5.out.keep hF6)
          clear hF6
          go_wp2
          go_roundw
          case rel => exact ⟨k + 1, _, m, by omega, by go_num, HB6⟩
          case measure => simp [intOf]; omega
        · by_cases c1 : x = 1
          · subst c1
            go_wp2_with fail
            refine (pSmall p B bs st _ HB.out.P).mono ?_
            rintro e w3 ⟨y, hy, rfl, -, hP3, hT3⟩
            have HP3 := Lib.hid hP3
            have HT3 := Lib.hid hT3
            have Hy := Lib.hid hy
            clear hy hP3 hT3
            go_wp2_with fail
            refine (rSmall q B' bs m st _ (HB.out.mid HT3.out)).mono ?_
            rintro e w4 ⟨rfl, hR4, hT4⟩
            have HB4 := Lib.hid (HB.out.next HP3.out HT3.out hR4 hT4)
            clear hR4 hT4
            rw [← Hy.out]
            go_wp2_with fail
            refine (pEnd p B bs _ _ HB4.out.P).mono ?_
            rintro e w5 ⟨rfl, hF5⟩
            have HB5 := Lib.hid (HB4.out.keep hF5)
            clear hF5
            obtain ⟨r1, hr1⟩ : ∃ r, ended bs (asked (rdSmall bs) 0 st).2 = r := ⟨_, rfl⟩
            rw [hr1]
            have Hr1 := Lib.hid hr1
            clear hr1
            go_wp2_with fail
            refine (rEnd q B' bs m _ _ HB5.out.R).mono ?_
            rintro e w6 ⟨rfl, hF6⟩
            rw [Hr1.out]
            have HB6 := Lib.hid (HB5.out.keep hF6)
            clear hF6
            go_wp2
            go_roundw
            case rel => exact ⟨k + 1, _, m, by omega, by go_num, HB6⟩
            case measure => simp [intOf]; omega
          · by_cases c2 : x = 2
            · subst c2
              go_wp2_with fail
              refine (pText p B bs st _ HB.out.P).mono ?_
              rintro e w3 ⟨y, hy, rfl, -, hP3, hT3⟩
              have HP3 := Lib.hid hP3
              have HT3 := Lib.hid hT3
              have Hy := Lib.hid hy
              clear hy hP3 hT3
              go_wp2_with fail
              refine (rText q B' bs m st _ (HB.out.mid HT3.out)).mono ?_
              rintro e w4 ⟨rfl, hR4, hT4⟩
              have HB4 := Lib.hid (HB.out.next HP3.out HT3.out hR4 hT4)
              clear hR4 hT4
              rw [← Hy.out]
              go_wp2_with fail
              refine (pEnd p B bs _ _ HB4.out.P).mono ?_
              rintro e w5 ⟨rfl, hF5⟩
              have HB5 := Lib.hid (HB4.out.keep hF5)
              clear hF5
              obtain ⟨r1, hr1⟩ : ∃ r, ended bs (asked (rdText bs) ⟨#[]⟩ st).2 = r := ⟨_, rfl⟩
              rw [hr1]
              have Hr1 := Lib.hid hr1
              clear hr1
              go_wp2_with fail
              refine (rEnd q B' bs m _ _ HB5.out.R).mono ?_
              rintro e w6 ⟨rfl, hF6⟩
              rw [Hr1.out]
              have HB6 := Lib.hid (HB5.out.keep hF6)
              clear hF6
              go_wp2
              go_roundw
              case rel => exact ⟨k + 1, _, m, by omega, by go_num, HB6⟩
              case measure => simp [intOf]; omega
            · by_cases c3 : x = 3
              · subst c3
                have hqw : q < wr.heap.size := Nat.lt_of_lt_of_le HB.out.R.low.1 HB.out.R.low.2
                go_wp2_with fail
                refine (pNode p B bs st _ HB.out.P).mono ?_
                rintro e w3 ⟨v3, rfl, ⟨cs3, rfl, hN3⟩, hP3, hT3⟩
                obtain ⟨y, s1, hy⟩ : ∃ y s, asked (rdTree bs) nd0 st = (y, s) := ⟨_, _, rfl⟩
                rw [hy] at hN3 hP3
                obtain ⟨A3, c3, rfl, -⟩ := hN3.open
                have hz3 := hT3.size
                have hFa : Fr w3 (w3.alloc (.cells #[.int .i64 y.id, .int .i64 y.kind, .string y.text, .slice A3 y.kids.length c3] 25)) := Fr.new _ _
                have HN3 := Lib.hid (RN.keep hN3 hFa.keeps.all)
                have b3 := Blk.new w3 [.int .i64 y.id, .int .i64 y.kind, .string y.text, .slice A3 y.kids.length c3] 25
                have HP3 := Lib.hid (hP3.keep hFa)
                have HT3 := Lib.hid (hT3.trans (fr_trn hFa))
                have Hy := Lib.hid hy
                clear hy hP3 hT3 hN3 hFa
                go_wp2_with fail
                refine (rNode35 q B' bs m st _ (HB.out.mid HT3.out)).mono ?_
                rintro e w4 ⟨cs4, m4, rfl, hN4, hR4, hT4⟩
                rw [Hy.out] at hN4 hR4
                obtain ⟨A4, c4, rfl, -⟩ := hN4.open
                have hFa : Fr w4 (w4.alloc (.cells #[.int .i64 y.id, .int .i64 y.kind, .string y.text, .slice A4 y.kids.length c4] 25)) := Fr.new _ _
                have b4 := (b3.trn hT4 (by omega)).alloc (.cells #[.int .i64 y.id, .int .i64 y.kind, .string y.text, .slice A4 y.kids.length c4] 25)
                have b5 := Blk.new w4 [.int .i64 y.id, .int .i64 y.kind, .string y.text, .slice A4 y.kids.length c4] 25
                have HN34 := Lib.hid (RN.here (RN.keep (RN.keep HN3.out (hT4.keeps.weaken fun k (hk : wr.heap.size ≤ k) _ => by omega)) hFa.keeps.all))
                have HN4 := Lib.hid (RN.here (RN.keep hN4 hFa.keeps.all))
                have HB40 := Lib.hid ((HB.out.next HP3.out HT3.out hR4 hT4).keep hFa)
                have hb3l := b3.lt
                have hz4 := hT4.size
                have hne34 : w3.heap.size ≠ w4.heap.size := by omega
                have hne43 : w4.heap.size ≠ w3.heap.size := by omega
                obtain ⟨q0, q1⟩ := b4.rules
                obtain ⟨q2, q3⟩ := b5.rules
                have hl34 : w3.heap.size < w4.heap.size := by omega
                clear hR4 hT4 hN4 hFa b3
                go_wp2_with fail
                refine (sameNode y.ht y y _ _ _ (Nat.le_refl _) HN34.out HN4.out).mono ?_
                rintro e w45 ⟨b6, rfl, hb6, hF45⟩
                obtain rfl : b6 = true := hb6.2 rfl
                have HB4 := Lib.hid (HB40.out.keep hF45)
                clear hb6 hF45 q0 q1 q2 q3
                go_wp2_with fail
                refine (pEnd p B bs _ _ HB4.out.P).mono ?_
                rintro e w5 ⟨rfl, hF5⟩
                have HB5 := Lib.hid (HB4.out.keep hF5)
                clear hF5
                obtain ⟨r1, hr1⟩ : ∃ r, ended bs s1 = r := ⟨_, rfl⟩
                rw [hr1]
                have Hr1 := Lib.hid hr1
                clear hr1
                go_wp2_with fail
                refine (rEnd q B' bs m4 _ _ HB5.out.R).mono ?_
                rintro e w6 ⟨rfl, hF6⟩
                rw [Hr1.out]
                have HB6 := Lib.hid (HB5.out.keep hF6)
                clear hF6
                go_wp2
                go_roundw
                case rel => exact ⟨k + 1, _, m4, by omega, by go_num, HB6⟩
                case measure => simp [intOf]; omega
              · by_cases c4 : x = 4
                · subst c4
                  go_wp2_with fail
                  refine (pSteps p B bs st _ HB.out.P).mono ?_
                  rintro e w3 ⟨v3, rfl, hM3, hP3, hT3⟩
                  obtain ⟨ys, s1, hy⟩ : ∃ y s, asked (rdSteps bs) [] st = (y, s) := ⟨_, _, rfl⟩
                  rw [hy] at hM3 hP3
                  have hM3' : Made elStp w3 wr.heap.size 27 (wr.heap.size ≤ ·) v3 ys := hM3
                  have hS3 : Sl elStp w3 (wr.heap.size ≤ ·) v3 ys := hM3'.reads.mono fun k hk _ => hk.elim (fun h => h) fun e => (hM3'.lt k e).1
                  have HS3 := Lib.hid hS3
                  obtain ⟨A3, c3, rfl, -⟩ := hS3
                  have HP3 := Lib.hid hP3
                  have HT3 := Lib.hid hT3
                  have Hy := Lib.hid hy
                  clear hy hP3 hT3 hM3 hM3'
                  go_wp2_with fail
                  refine (rSteps38 q B' bs m st _ (HB.out.mid HT3.out) Hb.out).mono ?_
                  rintro e w4 ⟨v4, m4, rfl, hS4, hR4, hT4⟩
                  rw [Hy.out] at hS4 hR4
                  have HB4 := Lib.hid (HB.out.next HP3.out HT3.out hR4 hT4)
                  have HS4 := Lib.hid hS4
                  have hqw : q < wr.heap.size := Nat.lt_of_lt_of_le HB.out.R.low.1 HB.out.R.low.2
                  have HS34 : Hid (SlT elStp w4 (.slice A3 ys.length c3) ys) := Lib.hid ((HS3.out.keep (hT4.keeps.weaken fun k hk _ => by omega) hT4.size).mono fun _ _ _ => trivial)
                  have hys : ys.length ≤ 9223372036854775807 := by have := asked_steps_len Hy.out; omega
                  obtain ⟨A4, c4, rfl, -⟩ := hS4
                  clear hR4 hT4
                  go_wp2_with fail
                  refine (sameSteps _ _ _ _ _ HS34.out HS4.out hys hys).mono ?_
                  rintro e w45 ⟨b5, rfl, hb5, hF45⟩
                  obtain rfl : b5 = true := hb5.2 rfl
                  have HB4' := HB4
                  have HB4 := Lib.hid (HB4'.out.keep hF45)
                  clear hb5 hF45 HB4'
                  go_wp2_with fail
                  refine (pEnd p B bs _ _ HB4.out.P).mono ?_
                  rintro e w5 ⟨rfl, hF5⟩
                  have HB5 := Lib.hid (HB4.out.keep hF5)
                  clear hF5
                  obtain ⟨r1, hr1⟩ : ∃ r, ended bs s1 = r := ⟨_, rfl⟩
                  rw [hr1]
                  have Hr1 := Lib.hid hr1
                  clear hr1
                  go_wp2_with fail
                  refine (rEnd q B' bs m4 _ _ HB5.out.R).mono ?_
                  rintro e w6 ⟨rfl, hF6⟩
                  rw [Hr1.out]
                  have HB6 := Lib.hid (HB5.out.keep hF6)
                  clear hF6
                  go_wp2
                  go_roundw
                  case rel => exact ⟨k + 1, _, m4, by omega, by go_num, HB6⟩
                  case measure => simp [intOf]; omega
                · by_cases c5 : x = 5
                  · subst c5
                    go_wp2_with fail
                    refine (pCount p B bs size most st _ HB.out.P).mono ?_
                    rintro e w3 ⟨y, hy, rfl, -, hP3, hT3⟩
                    have HP3 := Lib.hid hP3
                    have HT3 := Lib.hid hT3
                    have Hy := Lib.hid hy
                    clear hy hP3 hT3
                    go_wp2_with fail
                    refine (rCount q B' bs size most m st _ (HB.out.mid HT3.out)).mono ?_
                    rintro e w4 ⟨rfl, hR4, hT4⟩
                    have HB4 := Lib.hid (HB.out.next HP3.out HT3.out hR4 hT4)
                    clear hR4 hT4
                    rw [← Hy.out]
                    go_wp2_with fail
                    refine (pEnd p B bs _ _ HB4.out.P).mono ?_
                    rintro e w5 ⟨rfl, hF5⟩
                    have HB5 := Lib.hid (HB4.out.keep hF5)
                    clear hF5
                    obtain ⟨r1, hr1⟩ : ∃ r, ended bs (asked (rdCount bs size most) 0 st).2 = r := ⟨_, rfl⟩
                    rw [hr1]
                    have Hr1 := Lib.hid hr1
                    clear hr1
                    go_wp2_with fail
                    refine (rEnd q B' bs m _ _ HB5.out.R).mono ?_
                    rintro e w6 ⟨rfl, hF6⟩
                    rw [Hr1.out]
                    have HB6 := Lib.hid (HB5.out.keep hF6)
                    clear hF6
                    go_wp2
                    go_roundw
                    case rel => exact ⟨k + 1, _, m, by omega, by go_num, HB6⟩
                    case measure => simp [intOf]; omega
                  · go_wp2_with fail
                    refine (pEnd p B bs _ _ HB.out.P).mono ?_
                    rintro e w5 ⟨rfl, hF5⟩
                    have HB5 := Lib.hid (HB.out.keep hF5)
                    clear hF5
                    obtain ⟨r1, hr1⟩ : ∃ r, ended bs st = r := ⟨_, rfl⟩
                    rw [hr1]
                    have Hr1 := Lib.hid hr1
                    clear hr1
                    go_wp2_with fail
                    refine (rEnd q B' bs m _ _ HB5.out.R).mono ?_
                    rintro e w6 ⟨rfl, hF6⟩
                    rw [Hr1.out]
                    have HB6 := Lib.hid (HB5.out.keep hF6)
                    clear hF6
                    go_wp2
                    go_roundw
                    case rel => exact ⟨k + 1, _, m, by omega, by go_num, HB6⟩
                    case measure => simp [intOf]; omega
      · have HW := Lib.hid HB.out.F
        go_wp2_with fail
        refine (wakes25 _).mono ?_
        rintro e w3 ⟨rfl, hF⟩
        have HF := Lib.hid (HW.out.trans hF)
        clear hF
        go_wp2
        go_ret
        exact ⟨rfl, HF.out⟩
end Go.Proofs.Ytbhmpbaembmlnaa
