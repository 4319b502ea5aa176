/- The document's readers: fails, Number, Small, Count, Text, End. -/
import Derived.Test.YtbhmpbaembmlnaaE2
set_option linter.unusedVariables false
namespace Go.Proofs.Ytbhmpbaembmlnaa
open Go.RowKit

/-- A reader of the document's in memory: a block of four cells; it and the bytes lie below B. -/
def RfAt (w : World) (q B : Nat) (bs : List Int) (at_ : Nat) (bad : Int) (m : Int) : Prop :=
  ∃ A cap, Blk w q [.slice A bs.length cap, .int .i64 at_, .int .i64 bad, .int .i64 m] 121 ∧ bs.length ≤ cap ∧ Row elB w (fun k => k < B ∧ k ≠ q) A bs ∧ at_ ≤ bs.length ∧ bs.length ≤ 1000000 ∧ q < B ∧ B ≤ w.heap.size

section
variable {w w' : World} {q B : Nat} {bs : List Int} {at_ at2 : Nat} {bad bad' m m' : Int}
theorem RfAt.low (h : RfAt w q B bs at_ bad m) : q < B ∧ B ≤ w.heap.size := by
  obtain ⟨A, cap, -, -, -, -, -, h⟩ := h
  exact h
theorem RfAt.keepB (h : RfAt w q B bs at_ bad m) (hk : Keeps (· < B) w w') (hz : w.heap.size ≤ w'.heap.size) : RfAt w' q B bs at_ bad m := by
  obtain ⟨A, cap, hb, hc, hr, h1, h2, h3, h4⟩ := h
  exact ⟨A, cap, hb.keep hk h3, hc, hr.keep (hk.weaken fun k hk _ => hk.1) hz, h1, h2, h3, Nat.le_trans h4 hz⟩
theorem RfAt.keep (h : RfAt w q B bs at_ bad m) (hk : Fr w w') : RfAt w' q B bs at_ bad m := h.keepB hk.keeps.all hk.size
theorem RfAt.set1 (h : RfAt w q B bs at_ bad m) (h2 : at2 ≤ bs.length) : RfAt (w.setCell ⟨q, 1, none⟩ (.int .i64 at2)) q B bs at2 bad m := by
  obtain ⟨A, cap, hb, hc, hr, h1, h3, h4, h5⟩ := h
  exact ⟨A, cap, hb.set 1 _, hc, hr.keep ((Keeps.refl _ w).set (fun h => h.2 rfl) 1 _) (by simp), h2, h3, h4, by rw [size_set]; exact h5⟩
theorem RfAt.set2 (h : RfAt w q B bs at_ bad m) : RfAt (w.setCell ⟨q, 2, none⟩ (.int .i64 bad')) q B bs at_ bad' m := by
  obtain ⟨A, cap, hb, hc, hr, h1, h3, h4, h5⟩ := h
  exact ⟨A, cap, hb.set 2 _, hc, hr.keep ((Keeps.refl _ w).set (fun h => h.2 rfl) 2 _) (by simp), h1, h3, h4, by rw [size_set]; exact h5⟩
theorem RfAt.set3 (h : RfAt w q B bs at_ bad m) : RfAt (w.setCell ⟨q, 3, none⟩ (.int .i64 m')) q B bs at_ bad m' := by
  obtain ⟨A, cap, hb, hc, hr, h1, h3, h4, h5⟩ := h
  exact ⟨A, cap, hb.set 3 _, hc, hr.keep ((Keeps.refl _ w).set (fun h => h.2 rfl) 3 _) (by simp), h1, h3, h4, by rw [size_set]; exact h5⟩
theorem RfAt.setFar (h : RfAt w q B bs at_ bad m) {g : Nat} (hg : B ≤ g) (off : Nat) (u : Value) : RfAt (w.setCell ⟨g, off, none⟩ u) q B bs at_ bad m :=
  h.keepB ((Keeps.refl _ w).set (by omega) off u) (by simp)
end

/-- .. wherever it is. -/
def RfSt (w : World) (q B : Nat) (bs : List Int) (m : Int) : Rs → Prop
  | .ok a => RfAt w q B bs a (-1) m
  | .error b => b ≤ bs.length ∧ ∃ a, RfAt w q B bs a b m
theorem RfSt.keepB {w w' : World} {q B : Nat} {bs : List Int} {m : Int} {st : Rs} (h : RfSt w q B bs m st) (hk : Keeps (· < B) w w') (hz : w.heap.size ≤ w'.heap.size) : RfSt w' q B bs m st := by
  cases st with
  | ok a => exact RfAt.keepB h hk hz
  | error b => exact ⟨h.1, h.2.elim fun a ha => ⟨a, ha.keepB hk hz⟩⟩
theorem RfSt.keep {w w' : World} {q B : Nat} {bs : List Int} {m : Int} {st : Rs} (h : RfSt w q B bs m st) (hk : Fr w w') : RfSt w' q B bs m st := h.keepB hk.keeps.all hk.size
theorem RfSt.low {w : World} {q B : Nat} {bs : List Int} {m : Int} {st : Rs} (h : RfSt w q B bs m st) : q < B ∧ B ≤ w.heap.size := by
  cases st with
  | ok a => exact RfAt.low h
  | error b => exact h.2.elim fun a ha => ha.low
theorem RfSt.set3 {w : World} {q B : Nat} {bs : List Int} {m m' : Int} {st : Rs} (h : RfSt w q B bs m st) : RfSt (w.setCell ⟨q, 3, none⟩ (.int .i64 m')) q B bs m' st := by
  cases st with
  | ok a => exact RfAt.set3 h
  | error b => exact ⟨h.1, h.2.elim fun a ha => ⟨a, ha.set3⟩⟩

set_option maxRecDepth 100000 in
set_option maxHeartbeats 1000000 in
theorem rFails (q B : Nat) (bs : List Int) (a b : Nat) (m : Int) (w : World) (h : RfAt w q B bs a (-1) m) (hb : b ≤ bs.length) :
    Calls Try.prog 101 #[.pointer (some ⟨q, 0, none⟩), .int .i64 b] w fun e w' => e = .returned (.tuple #[]) ∧ RfSt w' q B bs m (.error b) ∧ Trn (· = q) w w' := by
  have H := Lib.hid h
  obtain ⟨A, cp, hbk, hcap, hrow, h1, h2, hpB, hBz⟩ := h
  obtain ⟨f0, f1⟩ := hbk.rules
  have hz := hbk.lt
  clear hrow
  go_enter Try.func101, Try.ntmps101
  go_wp2
  go_end0
  exact ⟨rfl, ⟨hb, a, H.out.set2⟩, (Trn.refl _ _).setp _ _⟩

def RfReads (q B : Nat) (bs : List Int) (m : Int) (r : Rs) (v : Value) (w : World) (e : Ending) (w' : World) : Prop := e = .returned v ∧ RfSt w' q B bs m r ∧ Trn (· = q) w w'

set_option maxRecDepth 100000 in
set_option maxHeartbeats 2000000 in
theorem rNumber (q B : Nat) (bs : List Int) (m : Int) (st : Rs) (w : World) (h : RfSt w q B bs m st) :
    Calls Try.prog 29 #[.pointer (some ⟨q, 0, none⟩)] w (RfReads q B bs m (asked (rdNum bs) 0 st).2 (.int .i64 (asked (rdNum bs) 0 st).1) w) := by
  have H := Lib.hid h
  cases st with
  | error b =>
    obtain ⟨hbl, a, h⟩ := h
    obtain ⟨A, cp, hbk, hcap, hrow, h1, h2, hpB, hBz⟩ := h
    obtain ⟨f0, f1⟩ := hbk.rules
    have hz := hbk.lt
    clear hrow
    go_enter Try.func29, Try.ntmps29
    go_wp2
    go_ret
    exact ⟨rfl, H.out, Trn.refl _ _⟩
  | ok a =>
    have h0 := h
    obtain ⟨A, cp, hbk, hcap, hrow, h1, h2, hpB, hBz⟩ := h
    obtain ⟨f0, f1⟩ := hbk.rules
    have hz := hbk.lt
    by_cases hc : bs.length < a + 8
    · have d1 : decide ((bs.length : Int) - a < 8) = true := by simp; omega
      have Hr : Hid (asked (rdNum bs) 0 (.ok a) = (0, .error bs.length)) := Lib.hid (by simp [asked, rdNum, hc])
      clear hrow
      go_enter Try.func29, Try.ntmps29
      go_wp2_with fail
      go_quiet (fail)
      go_wp2_with fail
      refine (rFails q B bs a bs.length m _ (H.out.keep ((Fr.refl w).drewN _)) (Nat.le_refl _)).mono ?_
      rintro e w1 ⟨rfl, hR, hT⟩
      have HR := Lib.hid hR
      have HT := Lib.hid hT
      clear hR hT
      go_wp2
      go_ret
      rw [Hr.out]
      exact ⟨rfl, HR.out, ((Trn.refl _ _).drewN _).trans HT.out⟩
    · have d1 : decide ((bs.length : Int) - a < 8) = false := by simp; omega
      obtain ⟨l, hl⟩ : ∃ l, (bs.drop a).take 8 = l := ⟨_, rfl⟩
      have Hr : Hid (asked (rdNum bs) 0 (.ok a) = (num l, .ok (a + 8))) := Lib.hid (by simp [asked, rdNum, hc, hl])
      have Hl : Hid (∀ k, k < 8 → l[k]? = bs[a + k]?) := Lib.hid (by
        intro k hk
        rw [← hl, List.getElem?_take, if_pos hk, List.getElem?_drop])
      have hlen : l.length = 8 := by rw [← hl]; simp; omega
      have Hlen := Lib.hid hlen
      have Hrow := Lib.hid hrow
      obtain ⟨g, off, rfl, hg', hgl, -⟩ := hrow (by intro e; subst e; simp at hc)
      clear hl hlen hrow
      go_enter Try.func29, Try.ntmps29
      go_wp2_with fail
      go_quiet (fail)
      go_wp2_with fail
      go_loopw [3, 4] (fun n i wr => ∃ (k : Nat) (x : Int), k ≤ 8 ∧ i = .int .i64 k ∧ n = .int .u64 x ∧ Hid (x = (l.take k).foldl numStep 0) ∧ Fr w wr) (fun _ i _ => 8 - (intOf i).toNat)
      case atStart => exact ⟨0, 0, by omega, rfl, rfl, Lib.hid rfl, (Fr.refl w).drewN _⟩
      case round =>
        obtain ⟨k, x, hk, rfl, rfl, Hm, hw⟩ := hrel
        have hb' := hbk.later hw
        clear f0 f1
        obtain ⟨f0, f1⟩ := hb'.rules
        by_cases hk8 : k < 8
        · obtain ⟨y, hy⟩ := get_some (l := l) (k := k) (by have := Hlen.out; omega)
          have hy2 : bs[a + k]? = some y := by rw [← Hl.out k hk8]; exact hy
          obtain ⟨hx1, hx2, hx3⟩ := row_byte (Hrow.out.keep (w' := wr) hw.keeps.all hw.size) hy2
          have Hf := Lib.hid (fold_take hy Hm.out)
          have e1 : IntKind.i64.wrap ((a : Int) + k) = a + k := wrap_small _ (by omega) (by omega)
          have e2 : (0 : Int) ≤ (a : Int) + k := by omega
          have e3 : ((a : Int) + k).toNat = a + k := by omega
          have e4 : (a : Int) + k < bs.length := by omega
          have e5 : a + k < bs.length := by omega
          clear hy hy2
          go_wp2_with fail
          go_quiet (fail)
          clear e1 e2 e3
          go_wp2
          go_roundw
          case rel => exact ⟨k + 1, _, by omega, by go_num, rfl, Hf, hw.drewN _⟩
          case measure => simp [intOf]; omega
        · obtain rfl : k = 8 := by omega
          have Hw : Hid (wrap64 x = num l) := by
            have := Hm.out
            rw [List.take_of_length_le (by have := Hlen.out; omega)] at this
            exact Lib.hid (by rw [this]; rfl)
          have hz' := hb'.lt
          have Hset := Lib.hid (RfAt.set1 (H.out.keep hw : RfAt wr q B bs a (-1) m) (at2 := a + 8) (by omega))
          go_wp2
          go_ret
          rw [Hr.out]
          exact ⟨congrArg (fun z => Ending.returned (Value.int .i64 z)) Hw.out, Hset.out, (Trn.of_fr hw).setp _ _⟩
end Go.Proofs.Ytbhmpbaembmlnaa
