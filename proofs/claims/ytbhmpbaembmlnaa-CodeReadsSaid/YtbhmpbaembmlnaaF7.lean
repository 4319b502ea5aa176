/- The document's readers: Steps; the makers of readers. -/
import Derived.Test.YtbhmpbaembmlnaaF6
set_option linter.unusedVariables false
namespace Go.Proofs.Ytbhmpbaembmlnaa
open Go.RowKit

def RfSteps (q B : Nat) (bs : List Int) (xs : List Stp) (st : Rs) (w : World) (e : Ending) (w' : World) : Prop :=
  ∃ (v : Value) (m' : Int), e = .returned v ∧ SlT elStp w' v xs ∧ RfSt w' q B bs m' st ∧ Trn (· = q) w w'

/-- So far k of n steps. -/
def stepsSo (bs : List Int) (st0 : Rs) (n : Nat) (s4 : Rs) (k : Nat) (xs : List Stp) : Rs → Prop
  | .error b => asked (rdSteps bs) [] st0 = ([], .error b)
  | .ok a' => (∃ a0, st0 = .ok a0 ∧ ∀ a4, s4 = .ok a4 → rdSteps bs a0 = rdList (rdStep bs) n a4) ∧ ∃ a4, s4 = .ok a4 ∧ rdList (rdStep bs) k a4 = .ok (xs, a')

set_option maxRecDepth 100000 in
set_option maxHeartbeats 4000000 in
theorem rSteps38 (q B : Nat) (bs : List Int) (m : Int) (st : Rs) (w : World) (h : RfSt w q B bs m st) (hl : bs.length ≤ 1000000) :
    Calls Try.prog 38 #[.pointer (some ⟨q, 0, none⟩)] w (RfSteps q B bs (asked (rdSteps bs) [] st).1 (asked (rdSteps bs) [] st).2 w) := by
  have hq := h.low
  have HS0 := Lib.hid h
  clear h
  go_enter Try.func38, Try.ntmps38
  go_wp2_with fail
  refine (rCount q B bs 57 60 m st _ HS0.out).mono ?_
  rintro e w1 ⟨rfl, hS, hT⟩
  obtain ⟨n, s1, hn⟩ : ∃ x s, asked (rdCount bs 57 60) 0 st = (x, s) := ⟨_, _, rfl⟩
  rw [hn] at hS
  have HS1 := Lib.hid hS
  have HT1 := Lib.hid hT
  rw [hn]
  have hk : ∃ k : Nat, n = k ∧ k ≤ 60 ∧ stepsSo bs st k s1 0 [] s1 := by
    cases s1 with
    | error b =>
      obtain ⟨rfl, hc⟩ := asked_bad hn
      refine ⟨0, rfl, by omega, ?_⟩
      rcases hc with rfl | ⟨a0, rfl, hc⟩
      · rfl
      · simp [stepsSo, asked, rdSteps, hc]
    | ok a1 =>
      obtain ⟨a0, rfl, hc⟩ := asked_ok hn
      have ha1 : a1 ≤ bs.length := by obtain ⟨_, _, _, _, _, h, _⟩ := hS; exact h
      obtain ⟨c0, c1, c2⟩ := rdCount_ok hc ha1
      refine ⟨n.toNat, by omega, by omega, ⟨a0, rfl, fun a4 e => ?_⟩, a1, rfl, rfl⟩
      injection e with e; subst e
      simp [rdSteps, hc]
  obtain ⟨k, rfl, hk60, hso⟩ := hk
  have HSo := Lib.hid hso
  clear hS hT hn hso
  go_wp2_with fail
  go_loopw [4, 5] (fun v i wr => ∃ (j : Nat) (xs : List Stp) (st' : Rs) (m' : Int), j ≤ k ∧ i = .int .i64 j ∧ Made elStp wr w.heap.size 27 (w.heap.size ≤ ·) v xs ∧ Hid (Trn (· = q) w wr) ∧ Hid (RfSt wr q B bs m' st') ∧ Hid (xs.length = j) ∧ Hid (stepsSo bs st k s1 j xs st'))
    (fun _ i _ => k - (intOf i).toNat)
  case atStart => exact ⟨0, [], s1, m, Nat.zero_le _, rfl, Made.nil _ _ _ _ _, HT1, HS1, Lib.hid rfl, HSo⟩
  case round =>
    obtain ⟨j, xs, st', m', hjk, rfl, hM, HT, HS, Hxl, Hg⟩ := hrel
    obtain ⟨Av, cv, rfl, hcv⟩ := hM.sliceN Hxl.out
    have hMl := hM.lt
    have HM := Lib.hid hM
    clear hM
    obtain ⟨A', cp', a', hbk, hcp'⟩ := HS.out.block
    obtain ⟨f0, f1⟩ := hbk.rules
    have hql := hbk.lt
    cases st' with
    | error b' =>
      have hne : (0 : Int) ≤ b' := by omega
      have hd : decide ((b' : Int) < 0) = false := by simp
      have Ha : Hid (asked (rdSteps bs) [] st = ([], .error b')) := Lib.hid Hg.out
      simp only [badOf] at f0
      by_cases hlt : j < k
      all_goals
        go_wp2
        go_ret
        rw [Ha.out]
        exact ⟨_, m', rfl, ⟨none, 0, rfl, Nat.le_refl _, Row.nil _ _ _ _⟩, HS.out, HT.out⟩
    | ok a1 =>
      simp only [badOf] at f0
      obtain ⟨⟨a0, rfl, hr0⟩, a4, rfl, hl4⟩ := Hg.out
      have HR0 := Lib.hid (hr0 a4 rfl)
      have Hl4 := Lib.hid hl4
      clear hr0 hl4
      by_cases hlt : j < k
      · go_wp2_with fail
        refine (rStep114 q B bs m' (.ok a1) wr HS.out hl).mono ?_
        rintro e w5 ⟨cs, m5, rfl, hR, hS5, hT5⟩
        obtain ⟨y, st5, hy⟩ : ∃ y s, asked (rdStep bs) stp0 (.ok a1) = (y, s) := ⟨_, _, rfl⟩
        rw [hy] at hR hS5
        obtain ⟨Ay, cy, rfl, -⟩ := hR.open
        have HG5 : Hid (stepsSo bs (.ok a0) k (.ok a4) (j + 1) (xs ++ [y]) st5) := Lib.hid (by
          cases st5 with
          | error b =>
            obtain ⟨-, hc⟩ := asked_bad hy
            rcases hc with hc | ⟨a2, hc1, hc2⟩
            · cases hc
            · injection hc1 with hc1; subst hc1
              show asked (rdSteps bs) [] (.ok a0) = ([], .error b)
              simp only [asked, HR0.out, rdList_err Hl4.out hc2 k hlt]
          | ok a2 =>
            obtain ⟨a3, e3, hc⟩ := asked_ok hy
            injection e3 with e3; subst e3
            exact ⟨⟨a0, rfl, fun a4' e => by injection e with e; subst e; exact HR0.out⟩, a4, rfl, rdList_next Hl4.out hc⟩)
        have HS5 := Lib.hid hS5
        have hz5 := hT5.size
        have hzw := HT.out.size
        have HT5 := Lib.hid (HT.out.trans hT5)
        have hM5 := HM.out.keep (w' := w5) (hT5.keeps.weaken fun p hp hpl => by
          have hp' : w.heap.size ≤ p := hp.elim (fun h => h) fun e => (hMl p e).1
          omega)
        have hM6 := hM5.later (Fr.new w5 (.cells (stpCells y Ay cy).toArray 27))
        have hR6 : elStp.R (w5.alloc (.cells (stpCells y Ay cy).toArray 27)) (fun p => w.heap.size ≤ p ∧ (Value.slice Av j cv).ownBlock ≠ some p) y (stpCells y Ay cy) :=
          (RStp.mono hR fun p (hp : wr.heap.size ≤ p) _ => ⟨(by omega : w.heap.size ≤ p), fun e => by have := hMl p e; omega⟩).keep (Fr.new _ _).keeps.all
        have HR0' := HR0
        clear f0 f1 hS5 hM5 hT5 hy hR hbk
        go_wp2_with (at_builtin; go_must (refine wpList_append_made elStp (W := w5.alloc (.cells (stpCells y Ay cy).toArray 27)) w.heap.size 29 27 _ 104 (w.heap.size ≤ ·) rfl (.tmp 23) (.tmp 25) rfl Try.underlying29 info27e rfl (.slice Av j cv) xs y _ rfl rfl (by simp) hM6 hR6 ?c1 ?c2 ?c3 ?_))
        case c1 => simp; omega
        case c2 => rw [Hxl.out]; unfold maxLen; omega
        case c3 => rw [Hxl.out]; omega
        intro v1 w7 hM7 hg7 hat7
        have Hxl7 : Hid ((xs ++ [y]).length = j + 1) := Lib.hid (by rw [List.length_append, Hxl.out]; rfl)
        obtain ⟨A7, c7, rfl, -⟩ := hM7.sliceN Hxl7.out
        have hF6 : Fr w5 (w5.alloc (.cells (stpCells y Ay cy).toArray 27)) := Fr.new _ _
        have hK7 : Keeps (· < w.heap.size) w5 w7 := fun p hp hpl => (hg7.block p (Nat.lt_of_lt_of_le hpl hF6.size) (fun e => by have := hMl p e.symm; omega)).trans (hF6.block p hpl)
        have hz7 : w5.heap.size ≤ w7.heap.size := Nat.le_trans hF6.size hg7.size
        have HT7 : Hid (Trn (· = q) w w7) := Lib.hid ((HT5.out.trans (Trn.of_fr hF6)).own hg7 (fun p hp => (hMl p hp).1))
        have HS7 : Hid (RfSt w7 q B bs m5 st5) := Lib.hid (HS5.out.keepB (hK7.weaken fun p hp _ => by omega) hz7)
        have HM7 := Lib.hid (hM7.mono (T' := (w.heap.size ≤ ·)) fun p hp _ => hp.1)
        clear hM7 hg7 hat7 hK7 hF6 hM6 hR6
        go_wp2
        go_roundw
        case rel => exact ⟨j + 1, xs ++ [y], st5, m5, by omega, by go_num, HM7.out, HT7, HS7, Hxl7, HG5⟩
        case measure => simp [intOf]; omega
      · obtain rfl : j = k := by omega
        have Ha : Hid (asked (rdSteps bs) [] (.ok a0) = (xs, .ok a1)) := Lib.hid (by simp [asked, HR0.out, Hl4.out])
        go_wp2
        go_ret
        rw [Ha.out]
        exact ⟨_, m', rfl, HM.out.reads.mono fun _ _ _ => trivial, HS.out, HT.out⟩
end Go.Proofs.Ytbhmpbaembmlnaa
