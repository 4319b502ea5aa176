/- The document's readers: Text. -/
import Derived.Test.YtbhmpbaembmlnaaF3
set_option linter.unusedVariables false
namespace Go.Proofs.Ytbhmpbaembmlnaa
open Go.RowKit

theorem asked_text {bs : List Int} {st s1 : Rs} {x : Int} (h : asked (rdCount bs 1 bs.length) 0 st = (x, s1)) :
    asked (rdText bs) ⟨#[]⟩ st = match s1 with
      | .error b => (⟨#[]⟩, .error b)
      | .ok a => (strOfNums ((bs.drop a).take x.toNat), .ok (a + x.toNat)) := by
  cases st with
  | error b => simp [asked] at h ⊢; obtain ⟨-, rfl⟩ := h; rfl
  | ok c =>
    unfold asked at h ⊢
    unfold rdText
    cases hc : rdCount bs 1 bs.length c with
    | error b => simp [hc] at h ⊢; obtain ⟨-, rfl⟩ := h; rfl
    | ok r => obtain ⟨n, a⟩ := r; simp [hc] at h ⊢; obtain ⟨rfl, rfl⟩ := h; rfl
theorem asked_count {bs : List Int} {st : Rs} {x size most : Int} {a : Nat} (h : asked (rdCount bs size most) 0 st = (x, .ok a)) (ha : a ≤ bs.length) : 0 ≤ x ∧ x ≤ most ∧ x ≤ (bs.length : Int) - a := by
  cases st with
  | error b => simp [asked] at h
  | ok c =>
    unfold asked at h
    cases hc : rdCount bs size most c with
    | error b => simp [hc] at h
    | ok r => obtain ⟨n, a'⟩ := r; simp [hc] at h; obtain ⟨rfl, rfl⟩ := h; exact rdCount_ok hc ha

set_option maxRecDepth 100000 in
set_option maxHeartbeats 2000000 in
theorem rText (q B : Nat) (bs : List Int) (m : Int) (st : Rs) (w : World) (h : RfSt w q B bs m st) :
    Calls Try.prog 33 #[.pointer (some ⟨q, 0, none⟩)] w (RfReads q B bs m (asked (rdText bs) ⟨#[]⟩ st).2 (.string (asked (rdText bs) ⟨#[]⟩ st).1) w) := by
  have H := Lib.hid h
  have hst : ∃ (a : Nat) (bad : Int), RfAt w q B bs a bad m := by
    cases st with
    | ok a => exact ⟨a, _, h⟩
    | error b => exact h.2.elim fun a ha => ⟨a, _, ha⟩
  obtain ⟨a, bad, ⟨A, cp, hbk, hcap, hrow, h1, h2, hpB, hBz⟩⟩ := hst
  obtain ⟨f0, f1⟩ := hbk.rules
  have hz := hbk.lt
  clear hrow h
  go_enter Try.func33, Try.ntmps33
  go_wp2_with fail
  refine (rCount q B bs 1 bs.length m st _ H.out).mono ?_
  rintro e w1 ⟨rfl, hR, hT⟩
  have HR := Lib.hid hR
  have HT := Lib.hid hT
  clear f0 f1 hT
  cases hn : asked (rdCount bs 1 bs.length) 0 st with
  | mk x s1 =>
  rw [hn] at hR HR
  cases s1 with
  | error b =>
    have Hr : Hid (asked (rdText bs) ⟨#[]⟩ st = (⟨#[]⟩, .error b)) := Lib.hid (asked_text hn)
    obtain ⟨hbl, a1, hR⟩ := hR
    obtain ⟨A1, cp1, hb1, hcap1, -, h11, -, -, -⟩ := hR
    obtain ⟨f0, f1⟩ := hb1.rules
    have hz1 := hb1.lt
    clear hn
    go_wp2
    go_ret
    rw [Hr.out]
    exact ⟨rfl, HR.out, HT.out⟩
  | ok a1 =>
    obtain ⟨A1, cp1, hb1, hcap1, hrow1, h11, -, -, -⟩ := hR
    obtain ⟨n0, n1, n2⟩ := asked_count hn h11
    obtain ⟨k, rfl⟩ : ∃ k : Nat, x = k := ⟨x.toNat, by omega⟩
    have Hr : Hid (asked (rdText bs) ⟨#[]⟩ st = (strOfNums ((bs.drop a1).take k), .ok (a1 + k))) := Lib.hid (asked_text hn)
    obtain ⟨f0, f1⟩ := hb1.rules
    have hz1 := hb1.lt
    have Hrow := Lib.hid hrow1
    have Hset := Lib.hid (RfAt.set1 (HR.out : RfAt w1 q B bs a1 (-1) m) (at2 := a1 + k) (by omega))
    have e1 : IntKind.i64.wrap ((a1 : Int) + k - k) = a1 := by rw [wrap_small _ (by omega) (by omega)]; omega
    have e2 : (0 : Int) ≤ a1 := by omega
    have e4 : a1 + k ≤ bs.length := by omega
    have e5 : (a1 : Int) ≤ (a1 : Int) + k := by omega
    clear hn hrow1
    by_cases hk0 : k = 0
    · subst hk0
      clear e1 e5
      have hc0 : ∀ (P : Option Addr) (c n : Nat), (convert 36 9 (.slice P 0 c)).run Try.prog ((w1.setCell ⟨q, 1, none⟩ (.int .i64 (a1 : Int))).drewN n) = .ok (.string (strOfNums [])) ((w1.setCell ⟨q, 1, none⟩ (.int .i64 (a1 : Int))).drewN n) := fun P c n => bytes_none _ 36 5 Try.underlying36 Try.underlying5 P c 9 Try.underlying9
      have e1 : IntKind.i64.wrap (a1 : Int) = a1 := wrap_small _ (by omega) (by omega)
      by_cases hcp : cp1 = a1
      all_goals
        go_wp2_with fail
        go_quiet (fail)
        go_wp2
        go_ret
        rw [Hr.out]
        exact ⟨rfl, Hset.out, (HT.out.setp _ _).drewN _⟩
    · obtain ⟨g, off, rfl, hg', hgl, -⟩ := Hrow.out (by intro e; subst e; simp at n1; omega)
      have e6 : ¬ cp1 = a1 := by omega
      have e7 : (a1 : Int) + k ≤ cp1 := by omega
      have e8 : a1 + k ≤ cp1 := by omega
      have hconv : ∀ n, (convert 36 9 (.slice (some ⟨g, off + a1, none⟩) k (cp1 - a1))).run Try.prog ((w1.setCell ⟨q, 1, none⟩ (.int .i64 ((a1 : Int) + k))).drewN n) = .ok (.string (strOfNums ((bs.drop a1).take k))) ((w1.setCell ⟨q, 1, none⟩ (.int .i64 ((a1 : Int) + k))).drewN n) := fun n => by
        refine run_convert_bytes_arg _ 36 5 Try.underlying36 Try.underlying5 g (off + a1) k (cp1 - a1) ((bs.drop a1).take k) (by simp; omega) (fun i hi => ?_) 9 Try.underlying9
        obtain ⟨x, hx⟩ := get_some (l := bs) (k := a1 + i) (by omega)
        have hrow2 : Row elB (w1.setCell ⟨q, 1, none⟩ (.int .i64 ((a1 : Int) + k))) (fun k => k < B ∧ k ≠ q) (some ⟨g, off, none⟩) bs := Hrow.out.keep ((Keeps.refl _ w1).set (fun h => h.2 rfl) 1 _) (by simp)
        have := (row_byte hrow2 hx).1
        rw [List.getD_eq_getElem?_getD, List.getElem?_take, if_pos hi, List.getElem?_drop, hx]
        rw [show off + a1 + i = off + (a1 + i) by omega]
        exact this
      go_wp2_with fail
      go_quiet (fail)
      go_wp2
      go_ret
      rw [Hr.out]
      exact ⟨rfl, Hset.out, (HT.out.setp _ _).drewN _⟩
end Go.Proofs.Ytbhmpbaembmlnaa
