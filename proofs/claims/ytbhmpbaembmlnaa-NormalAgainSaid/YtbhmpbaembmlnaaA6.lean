/- Layer 12's own guard: allotmentlaw12.great. -/
import Derived.Test.YtbhmpbaembmlnaaA5
set_option linter.unusedVariables false
namespace Go.Proofs.Ytbhmpbaembmlnaa
open Go.RowKit

/-- How many nodes a tree has. -/
def Nd.size (t : Nd) : Nat := (t.pre 1).length

def Great12 (l : List Stp) : Prop := 60 < l.length ∨ ∃ x ∈ l, 200 < x.sub.size

def Asks (p : Prop) (w : World) (e : Ending) (w' : World) : Prop := ∃ b, e = .returned (.bool b) ∧ (b = true ↔ p) ∧ Fr w w'

set_option maxRecDepth 100000 in
set_option maxHeartbeats 2000000 in
theorem great12 (l : List Stp) (v : Value) (w : World) (h : SlT elStp w v l) (hl : l.length ≤ 9223372036854775807) :
    Calls Try.prog 18 #[v] w (Asks (Great12 l) w) := by
  obtain ⟨A, cap, rfl, hc, hr⟩ := h
  by_cases h60 : 60 < l.length
  · go_enter Try.func18, Try.ntmps18
    go_wp2
    go_ret
    exact ⟨_, rfl, by simp [Great12, h60], Fr.refl w⟩
  · go_enter Try.func18, Try.ntmps18
    go_wp2_with fail
    go_loopw [3] (fun i wr => ∃ k : Nat, k ≤ l.length ∧ i = .int .i64 k ∧ (∀ (j : Nat) (x : Stp), j < k → l[j]? = some x → x.sub.size ≤ 200) ∧ Fr w wr) (fun i _ => l.length - (intOf i).toNat)
    case atStart => exact ⟨0, Nat.zero_le _, rfl, fun j x h => absurd h (by omega), Fr.refl w⟩
    case round =>
      obtain ⟨k, hkl, rfl, hsm, hb⟩ := hrel
      have Hs := Lib.hid hsm; clear hsm
      by_cases hlt : k < l.length
      · obtain ⟨x, hx⟩ := get_some hlt
        obtain ⟨g, off, B, capB, rfl, -, -, ⟨c0, c1, c2, c3, c4, c5, c6, c7, c8⟩, hxr, -⟩ := (hr.keep hb.keeps hb.size).stp hx
        have Hx := Lib.hid hx
        clear hx
        go_wp2_with fail
        refine (Walk x.sub _ 201 _ hxr (by decide)).mono ?_
        rintro e w1 ⟨v, rfl, ⟨A1, cap1, rfl, -, -⟩, hbw⟩
        have hlen : ((x.sub.pre 1).take 201).length = min 201 x.sub.size := by rw [List.length_take]; rfl
        generalize ((x.sub.pre 1).take 201).length = n at hlen
        have Hlen := Lib.hid hlen; clear hlen
        by_cases hbig : 200 < n
        · go_wp2
          go_ret
          refine ⟨_, rfl, ?_, hb.trans hbw⟩
          simp only [true_iff]
          exact .inr ⟨x, List.mem_of_getElem? Hx.out, by have := Hlen.out; omega⟩
        · go_wp2
          go_roundw
          case rel =>
            refine ⟨k + 1, by omega, by go_num, fun j y hj hy => ?_, hb.trans hbw⟩
            by_cases hjk : j = k
            · subst hjk
              rw [Hx.out] at hy
              injection hy with hy
              subst hy
              have := Hlen.out; omega
            · exact Hs.out j y (by omega) hy
          case measure => simp [intOf]; omega
      · go_wp2
        go_ret
        refine ⟨_, rfl, ?_, hb⟩
        simp only [Bool.false_eq_true, false_iff]
        rintro (h | ⟨x, hx, h⟩)
        · omega
        · obtain ⟨j, hj, rfl⟩ := List.mem_iff_getElem.1 hx
          have := Hs.out j _ (by omega) (List.getElem?_eq_getElem hj)
          omega
end Go.Proofs.Ytbhmpbaembmlnaa
