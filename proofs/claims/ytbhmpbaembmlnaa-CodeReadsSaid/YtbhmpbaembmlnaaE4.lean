/- The public readers of plain things: Number, Small, Text, Count; End. -/
import Derived.Test.YtbhmpbaembmlnaaE3
set_option linter.unusedVariables false
namespace Go.Proofs.Ytbhmpbaembmlnaa
open Go.RowKit

set_option maxRecDepth 100000 in
set_option maxHeartbeats 1000000 in
theorem pNumber (p B : Nat) (bs : List Int) (st : Rs) (w : World) (h : PubAt w p B bs st) :
    Calls Try.prog 28 #[.pointer (some ⟨p, 0, none⟩)] w fun e w' => ∃ x, x = (asked (rdNum bs) 0 st).1 ∧ e = .returned (.int .i64 x) ∧ (Lit.int .i64 x).wf = true ∧ PubAt w' p B bs (asked (rdNum bs) 0 st).2 ∧ Trn (· = p) w w' := by
  have hmf : ∀ (fn : Fn) (first cap : Array Value) (w : World), (Instr.makeFunc fn first cap).run Try.prog w = .ok (.func fn first cap) w := fun _ _ _ _ => rfl
  go_enter Try.func28, Try.ntmps28
  go_wp2_with fail
  refine (ask99 p B bs (rdNum bs) 100 #[.pointer (some ⟨p, 0, none⟩)] #[] st _ h (fun w => by simp [go_sem]) (fun a w1 _ h1 _ => cNumber p B bs a w1 h1)).mono ?_
  rintro e w1 ⟨x, hx, rfl, hwf, hP, hT⟩
  have Hx := Lib.hid hx
  clear hx
  go_wp2
  go_ret
  exact ⟨x, Hx.out, rfl, hwf, hP, hT⟩

set_option maxRecDepth 100000 in
set_option maxHeartbeats 1000000 in
theorem pSmall (p B : Nat) (bs : List Int) (st : Rs) (w : World) (h : PubAt w p B bs st) :
    Calls Try.prog 30 #[.pointer (some ⟨p, 0, none⟩)] w fun e w' => ∃ x, x = (asked (rdSmall bs) 0 st).1 ∧ e = .returned (.int .i8 x) ∧ (Lit.int .i8 x).wf = true ∧ PubAt w' p B bs (asked (rdSmall bs) 0 st).2 ∧ Trn (· = p) w w' := by
  have hmf : ∀ (fn : Fn) (first cap : Array Value) (w : World), (Instr.makeFunc fn first cap).run Try.prog w = .ok (.func fn first cap) w := fun _ _ _ _ => rfl
  go_enter Try.func30, Try.ntmps30
  go_wp2_with fail
  refine (ask102 p B bs (rdSmall bs) 103 #[.pointer (some ⟨p, 0, none⟩)] #[] st _ h (fun w => by simp [go_sem]) (fun a w1 _ h1 _ => cSmall p B bs a w1 h1)).mono ?_
  rintro e w1 ⟨x, hx, rfl, hwf, hP, hT⟩
  have Hx := Lib.hid hx
  clear hx
  go_wp2
  go_ret
  exact ⟨x, Hx.out, rfl, hwf, hP, hT⟩

set_option maxRecDepth 100000 in
set_option maxHeartbeats 1000000 in
theorem pText (p B : Nat) (bs : List Int) (st : Rs) (w : World) (h : PubAt w p B bs st) :
    Calls Try.prog 32 #[.pointer (some ⟨p, 0, none⟩)] w fun e w' => ∃ x, x = (asked (rdText bs) ⟨#[]⟩ st).1 ∧ e = .returned (.string x) ∧ x.size ≤ maxLen ∧ PubAt w' p B bs (asked (rdText bs) ⟨#[]⟩ st).2 ∧ Trn (· = p) w w' := by
  have hmf : ∀ (fn : Fn) (first cap : Array Value) (w : World), (Instr.makeFunc fn first cap).run Try.prog w = .ok (.func fn first cap) w := fun _ _ _ _ => rfl
  go_enter Try.func32, Try.ntmps32
  go_wp2_with fail
  refine (ask104 p B bs (rdText bs) 105 #[.pointer (some ⟨p, 0, none⟩)] #[] st _ h (fun w => by simp [go_sem]) (fun a w1 _ h1 _ => cText p B bs a w1 h1)).mono ?_
  rintro e w1 ⟨x, hx, rfl, hwf, hP, hT⟩
  have Hx := Lib.hid hx
  clear hx
  go_wp2
  go_ret
  exact ⟨x, Hx.out, rfl, hwf, hP, hT⟩

set_option maxRecDepth 100000 in
set_option maxHeartbeats 1000000 in
theorem c115 (p B : Nat) (bs : List Int) (size most : Int) (a g0 g1 g2 : Nat) (w : World) (h : RdAt w p B bs a (-1)) (h0 : w.cell? ⟨g0, 0, none⟩ = some (.pointer (some ⟨p, 0, none⟩))) (h1 : w.cell? ⟨g1, 0, none⟩ = some (.int .i64 size)) (h2 : w.cell? ⟨g2, 0, none⟩ = some (.int .i64 most)) :
    Calls Try.prog 115 #[.pointer (some ⟨g0, 0, none⟩), .pointer (some ⟨g1, 0, none⟩), .pointer (some ⟨g2, 0, none⟩)] w (Reads p B bs (rdCount bs size most a) (fun _ v x => v = .int .i64 x ∧ (Lit.int .i64 x).wf = true) w) := by
  go_enter Try.func115, Try.ntmps115
  go_wp2_with fail
  refine (cCount p B bs size most a _ h).mono ?_
  rintro e w1 ⟨hT, hr⟩
  cases hc : rdCount bs size most a with
  | error b =>
    rw [hc] at hr
    obtain ⟨at', rfl, h'⟩ := hr
    refine ⟨rfl, hT, ?_⟩
    rw [hc]
    exact ⟨at', rfl, h'⟩
  | ok r =>
    obtain ⟨x, a'⟩ := r
    rw [hc] at hr
    obtain ⟨v, rfl, ⟨rfl, hwf⟩, h'⟩ := hr
    have Hc := Lib.hid hc
    clear hc
    go_wp2
    go_ret
    refine ⟨hT, ?_⟩
    rw [Hc.out]
    exact ⟨_, rfl, ⟨rfl, hwf⟩, h'⟩

set_option maxRecDepth 100000 in
set_option maxHeartbeats 1000000 in
theorem pCount (p B : Nat) (bs : List Int) (size most : Int) (st : Rs) (w : World) (h : PubAt w p B bs st) :
    Calls Try.prog 39 #[.pointer (some ⟨p, 0, none⟩), .int .i64 size, .int .i64 most] w fun e w' => ∃ x, x = (asked (rdCount bs size most) 0 st).1 ∧ e = .returned (.int .i64 x) ∧ (Lit.int .i64 x).wf = true ∧ PubAt w' p B bs (asked (rdCount bs size most) 0 st).2 ∧ Trn (· = p) w w' := by
  have hmf : ∀ (fn : Fn) (first cap : Array Value) (w : World), (Instr.makeFunc fn first cap).run Try.prog w = .ok (.func fn first cap) w := fun _ _ _ _ => rfl
  go_enter Try.func39, Try.ntmps39
  go_wp2_with fail
  have hF : Fr w (((w.alloc (.cells #[.pointer (some ⟨p, 0, none⟩)] 38)).alloc (.cells #[.int .i64 size] 3)).alloc (.cells #[.int .i64 most] 3)) := ((Fr.new w _).alloc _).alloc _
  have b0 := ((Blk.new w [.pointer (some ⟨p, 0, none⟩)] 38).alloc (.cells #[.int .i64 size] 3)).alloc (.cells #[.int .i64 most] 3)
  have b1 := (Blk.new (w.alloc (.cells #[.pointer (some ⟨p, 0, none⟩)] 38)) [.int .i64 size] 3).alloc (.cells #[.int .i64 most] 3)
  have b2 := Blk.new ((w.alloc (.cells #[.pointer (some ⟨p, 0, none⟩)] 38)).alloc (.cells #[.int .i64 size] 3)) [.int .i64 most] 3
  simp only [World.size_alloc] at b1 b2
  refine (ask99 p B bs (rdCount bs size most) 115 #[] #[.pointer (some ⟨w.heap.size, 0, none⟩), .pointer (some ⟨w.heap.size + 1, 0, none⟩), .pointer (some ⟨w.heap.size + 1 + 1, 0, none⟩)] st _ (h.keep hF) (fun w => by simp [go_sem])
    (fun a w1 _ h1 hf => by
      have c0 := (b0.later hf).rules.1 0
      have c1 := (b1.later hf).rules.1 0
      have c2 := (b2.later hf).rules.1 0
      exact c115 p B bs size most a _ _ _ w1 h1 c0 c1 c2)).mono ?_
  rintro e w1 ⟨x, hx, rfl, hwf, hP, hT⟩
  have Hx := Lib.hid hx
  clear hx
  go_wp2
  go_ret
  exact ⟨x, Hx.out, rfl, hwf, hP, (Trn.of_fr hF).trans hT⟩

set_option maxRecDepth 100000 in
set_option maxHeartbeats 1000000 in
theorem pEnd (p B : Nat) (bs : List Int) (st : Rs) (w : World) (h : PubAt w p B bs st) :
    Calls Try.prog 41 #[.pointer (some ⟨p, 0, none⟩)] w fun e w' => e = .returned (.tuple #[.int .i64 (ended bs st).1, .int .i64 (ended bs st).2]) ∧ Fr w w' := by
  cases st with
  | error b =>
    obtain ⟨hbl, a, h⟩ := h
    obtain ⟨A, cp, hb, hcap, hrow, h1, h2, hpB, hBz⟩ := h
    obtain ⟨f0, f1⟩ := hb.rules
    have hz := hb.lt
    clear hrow
    go_enter Try.func41, Try.ntmps41
    go_wp2
    go_ret2
    exact ⟨rfl, Fr.refl w⟩
  | ok a =>
    obtain ⟨A, cp, hb, hcap, hrow, h1, h2, hpB, hBz⟩ := h
    obtain ⟨f0, f1⟩ := hb.rules
    have hz := hb.lt
    clear hrow
    by_cases hlt : a < bs.length
    · have d1 : decide ((a : Int) < bs.length) = true := by simp; omega
      have He : Hid (ended bs (.ok a) = ((a : Int), 30)) := Lib.hid (by simp [ended, hlt])
      go_enter Try.func41, Try.ntmps41
      go_wp2_with fail
      go_quiet (fail)
      go_wp2
      go_ret2
      rw [He.out]
      exact ⟨rfl, (Fr.refl w).drewN _⟩
    · have d1 : decide ((a : Int) < bs.length) = false := by simp; omega
      have He : Hid (ended bs (.ok a) = (0, 0)) := Lib.hid (by simp [ended, hlt])
      go_enter Try.func41, Try.ntmps41
      go_wp2_with fail
      go_quiet (fail)
      go_wp2
      go_ret2
      rw [He.out]
      exact ⟨rfl, (Fr.refl w).drewN _⟩
end Go.Proofs.Ytbhmpbaembmlnaa
