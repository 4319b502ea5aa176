/- normal.Steps: its iterator. -/
import Derived.Test.YtbhmpbaembmlnaaB7
import Derived.RangeFuncNested
import Derived.RangeFuncBound
import Derived.RangeFuncCalls
import Derived.RangeFuncLeaves
import Derived.Shelf.Abstract
import Derived.Shelf.RegionOpen
import Derived.WalkKit
import Derived.OwnWalkIn
import Derived.TacticsInMore
import Derived.LoopNIn
import Derived.LoopIn
set_option linter.unusedVariables false
namespace Go.Proofs.Ytbhmpbaembmlnaa
open Go.RowKit Go.Shelf
attribute [local go_sem] Oper.semAt_some

/-- Neither the loop's own blocks nor the iterator's: B its result, B + 1 the iterator's steps, B + 2 and B + 3 the loop's record. -/
def Safe (B k : Nat) : Prop := k < B ∨ B + 4 ≤ k
/-- What a round keeps. -/
structure Went (B : Nat) (W W' : World) : Prop where
  os : W'.os = W.os
  tape : W'.tape = W.tape
  output : W'.output = W.output
  size : W.heap.size ≤ W'.heap.size
  keeps : Keeps (fun k => k = B + 1 ∨ Safe B k) W W'

def leftOf (B : Nat) (c : Value) (w : World) : Nat := match c with
  | .bool true => match w.cell? ⟨B + 1, 0, none⟩ with
    | some (.slice _ n _) => n + 1
    | _ => 0
  | _ => 0

set_option maxRecDepth 100000 in
set_option maxHeartbeats 4000000 in
theorem steps1_in (n : Nat) (hn : 1 ≤ n) (l B : Nat) (xs0 : List Stp) (J : List Stp → World → Prop)
    (hJ : ∀ ys A W, J ys A → A.grownBy W (some (B + 1)) → J ys W)
    (hY : ∀ last ys v W, J last W → Sl elStp W (Safe B) v ys → YieldAt Fence.wide (n - 1) Try.prog l #[v] W fun e W' => e = .returned (.bool true) ∧ J ys W' ∧ Went B W W')
    (W : World) (hlen : xs0.length ≤ 1000000) (v : Value) (hBs : Blk W (B + 1) [v] 29) (hv : Sl elStp W (Safe B) v xs0) (hB : B + 4 ≤ W.heap.size) (h0 : J [] W) :
    CallsIn Fence.wide n Try.prog 160 #[.func (.yield l) #[] #[], .pointer (some ⟨B + 1, 0, none⟩)] W fun e W' => (∃ v, e = .returned v) ∧ J (ofS xs0) W' := by
  refine callsIn_of_wp Try.func160 rfl trivial ?_ rfl
  simp only [Try.ntmps160, List.size_toArray, List.length_cons, List.length_nil, Nat.reduceAdd, Nat.reduceSub, Array.replicate_succ, Array.replicate_zero, List.push_toArray, List.append_toArray, List.nil_append, List.cons_append]
  gi_wp2
  gi_loopw [3] (fun c wr => ∃ last cur v, Blk wr (B + 1) [v] 29 ∧ Sl elStp wr (Safe B) v cur ∧ J last wr ∧ B + 4 ≤ wr.heap.size ∧ cur.length ≤ 1000000 ∧ ofS cur = ofS xs0 ∧ (c = .bool true ∨ c = .bool false ∧ last = ofS xs0)) (fun c wr => leftOf B c wr)
  case atStart => exact ⟨[], xs0, v, hBs, hv, h0, hB, hlen, rfl, .inl rfl⟩
  case round =>
    obtain ⟨last, cur, v1, hb, hs, hj, hsz, hcl, hof, hc⟩ := hrel
    obtain ⟨wo, rfl⟩ : ∃ wo, wo = wr := ⟨_, rfl⟩
    rcases hc with rfl | ⟨rfl, rfl⟩
    · have hs0 := hs
      obtain ⟨A, cap, rfl, hcap, -⟩ := hs0
      obtain ⟨f0, f1⟩ := hb.rules
      have Hs := Lib.hid hs
      have Hj := Lib.hid hj
      clear hs hj
      gi_wp2
      refine ⟨trivial, (callsIn_wide.2 (sClone (Safe B) cur _ _ Hs.out hcl)).mono ?_⟩
      rintro e w1 ⟨A1, cap1, rfl, hf1, hM⟩
      have HM := Lib.hid hM
      clear hM
      gi_wp2
      gi_loopw [16] (fun i wi => ∃ k : Nat, k ≤ cur.length ∧ i = .int .i64 k ∧ Fr wo wi ∧ Hid (cur ≠ [] → Made elStp wi wo.heap.size 27 (Safe B) (.slice A1 cur.length cap1) cur)) (fun i _ => cur.length - (intOf i).toNat)
      case atStart => exact ⟨0, Nat.zero_le _, rfl, hf1, HM⟩
      case round =>
        obtain ⟨k, hkl, rfl, hw, HMi⟩ := hrel
        by_cases hlt : k < cur.length
        · obtain ⟨x, hx⟩ := get_some hlt
          have hMi := HMi.out (by rintro rfl; simp at hlt)
          obtain ⟨g, off, B2, c2, rfl, -, hgl, ⟨a0, a1, a2, a3, a4, a5, a6, a7, a8⟩, -, hxr⟩ := hMi.row.stp hx
          obtain ⟨rfl, fz⟩ := hMi.head
          have hg0 := (hMi.lt g rfl).1
          simp only [Nat.zero_add] at a0 a1 a2 a3 a4 a5 a6 a7 a8
          have Hx := Lib.hid hx
          have Hmi := Lib.hid hMi
          clear hx hMi
          gi_wp2
          refine ⟨trivial, (callsIn_wide.2 (nCopied x _ _ hxr.here)).mono ?_⟩
          rintro e w2 ⟨cs', rfl, hO, hbw⟩
          obtain ⟨B3, c3, rfl, -⟩ := hO.reads.open
          obtain ⟨r1, r2⟩ := hbw.rules
          have d0 := (r1 g _ hgl).trans a0
          have d1 := (r1 g _ hgl).trans a1
          have d2 := (r1 g _ hgl).trans a2
          have d3 := (r1 g _ hgl).trans a3
          have d4 := (r1 g _ hgl).trans a4
          have d5 := (r1 g _ hgl).trans a5
          have d6 := (r1 g _ hgl).trans a6
          have d7 := (r1 g _ hgl).trans a7
          have d8 := (r1 g _ hgl).trans a8
          have fz2 : ∀ j, w2.frozen? ⟨g, j, none⟩ = false := fun j => (r2 g j hgl).trans (fz j)
          have hM2 := Made.setCells (Hmi.out.later hbw) hlt (y := x) (us := stpCells x B3 c3) (hO.reads.mono fun q hq _ => ⟨Or.inr (by have := hw.size; have := hq.1; omega), by have := hq.1; omega⟩)
          have hset : cur.set k x = cur := by
            apply List.ext_getElem?
            intro j
            by_cases hjk : j = k
            · subst hjk; rw [List.getElem?_set_self hlt, Hx.out]
            · rw [List.getElem?_set_ne (by omega)]
          rw [hset] at hM2
          have HM2 := Lib.hid hM2
          have HF2 := Lib.hid (hw.trans hbw)
          clear hM2 hO r1 r2 hset a0 a1 a2 a3 a4 a5 a6 a7 a8
          gi_wp2
          go_roundw
          case rel =>
            refine ⟨k + 1, by omega, by go_num, ?_, ?_⟩
            · (repeat (first | with_reducible refine Fr.set ?_ (by omega) _ _ | with_reducible refine Fr.alloc ?_ _))
              exact HF2.out
            · exact Lib.hid fun _ => HM2.out
          case measure => simp [intOf]; omega
        · have hS1 : Sl elStp wr (Safe B) (.slice A1 cur.length cap1) cur := by
            by_cases hne : cur = []
            · subst hne
              exact ⟨_, _, rfl, Nat.zero_le _, Row.nil _ _ _ _⟩
            · refine (HMi.out hne).reads.mono fun q hq _ => ?_
              rcases hq with hq | hq
              · exact hq
              · have := ((HMi.out hne).lt q hq).1
                exact Or.inr (by omega)
          have hj1 := hJ _ _ _ Hj.out ⟨hw.os, hw.tape, hw.output, hw.size, fun k hk _ => hw.block k hk⟩
          obtain ⟨fn, tmps, assign, body, hy, hR⟩ := hY last cur _ wr hj1 hS1
          clear hS1 HM HMi
          gi_wp2
          refine hR.mono ?_
          rintro e W3 ⟨rfl, hJ3, hk3⟩
          have hb3 : Blk W3 (B + 1) [Value.slice A cur.length cap] 29 := (hb.later hw).keep hk3.keeps (Or.inl rfl)
          have hs3 := (Sl.keep (Sl.keep Hs.out hw.keeps.all hw.size) (hk3.keeps.weaken fun k hk _ => Or.inr hk) hk3.size)
          obtain ⟨g0, g1⟩ := hb3.rules
          have hz3 := hb3.lt
          have HJ3 := Lib.hid hJ3
          have Hs3 := Lib.hid hs3
          clear hJ3 hs3 hy hR
          gi_wp2
          refine ⟨trivial, (callsIn_wide.2 (nOnce (Safe B) cur _ _ Hs3.out hcl)).mono ?_⟩
          rintro e w4 ⟨v4, rfl, hs4, hf4⟩
          have hz4 := hf4.size
          have hz5 := hk3.size
          have hz6 := hw.size
          have Hs4 := Lib.hid (hs4.mono (S' := Safe B) fun q hq _ => by
            rcases hq with hq | hq
            · exact hq
            · exact Or.inr (by omega))
          obtain ⟨A4, cap4, rfl, -⟩ := hs4
          have hb4 := hb3.later hf4
          obtain ⟨q0, q1⟩ := hb4.rules
          have hJ4 := Lib.hid (hJ _ _ _ (hJ _ _ _ HJ3.out ⟨hf4.os, hf4.tape, hf4.output, hf4.size, fun k hk _ => hf4.block k hk⟩) (grownBy_setCell' w4 (B + 1) (.slice A4 ((onceS cur).getD cur).length cap4)))
          have Hb5 := Lib.hid (hb4.set 0 (.slice A4 ((onceS cur).getD cur).length cap4))
          have Hs5 := Lib.hid (Hs4.out.keep ((Keeps.refl (Safe B) w4).set (g := B + 1) (fun h => by rcases h with h | h <;> omega) 0 (.slice A4 ((onceS cur).getD cur).length cap4)) (by simp))
          gi_wp2
          go_roundw
          case rel =>
            refine ⟨cur, (onceS cur).getD cur, _, Hb5.out, Hs5.out, hJ4.out, by simp; omega, ?_, ?_, ?_⟩
            · cases ho : onceS cur with
              | none => exact hcl
              | some ys => have := once_len ho; simp; omega
            · cases ho : onceS cur with
              | none => exact hof
              | some ys => simp only [Option.getD_some]; rw [← ofS_some ho]; exact hof
            · cases ho : onceS cur with
              | none => exact Or.inr ⟨rfl, by rw [← hof, ofS_none ho]⟩
              | some ys => exact Or.inl rfl
          case measure =>
            have hc5 : (w4.setCell ⟨B + 1, 0, none⟩ (Value.slice A4 ((onceS cur).getD cur).length cap4)).cell? ⟨B + 1, 0, none⟩ = some (Value.slice A4 ((onceS cur).getD cur).length cap4) := Hb5.out.rules.1 0
            have hc0 : wo.cell? ⟨B + 1, 0, none⟩ = some (.slice A cur.length cap) := f0 0
            have hm0 : leftOf B (.bool true) wo = cur.length + 1 := by simp [leftOf, hc0]
            rw [hm0]
            cases ho : onceS cur with
            | none => simp [leftOf]
            | some ys =>
              rw [ho] at hc5
              have hl := once_len ho
              have hm1 : leftOf B (.bool true) (w4.setCell ⟨B + 1, 0, none⟩ (Value.slice A4 ((some ys).getD cur).length cap4)) = ys.length + 1 := by
                simp only [Option.getD_some] at hc5 ⊢
                simp only [leftOf, hc5]
              show leftOf B (.bool true) _ < _
              rw [hm1]
              omega
    · gi_wp2
      go_end0
      exact ⟨⟨_, rfl⟩, hj⟩
end Go.Proofs.Ytbhmpbaembmlnaa
