/- The document's readers: Node, Step. -/
import Derived.Test.YtbhmpbaembmlnaaF5
import Derived.Test.YtbhmpbaembmlnaaF1
set_option linter.unusedVariables false
namespace Go.Proofs.Ytbhmpbaembmlnaa
open Go.RowKit

theorem asked_tree_bad {bs : List Int} {st : Rs} {b : Nat} (h : rdFrom bs 40 0 st = .error b) : asked (rdTree bs) nd0 st = (nd0, .error b) := by
  cases st with
  | error b' => simp [rdFrom] at h; subst h; rfl
  | ok a => simp [rdFrom] at h; simp [asked, rdTree, h]
theorem asked_tree_ok {bs : List Int} {st : Rs} {x : Nd} {s : Nat × Nat} (h : rdFrom bs 40 0 st = .ok (x, s)) : asked (rdTree bs) nd0 st = (x, .ok s.1) := by
  cases st with
  | error b' => simp [rdFrom] at h
  | ok a => simp [rdFrom] at h; simp [asked, rdTree, h]

/-- The cell that tells whether a reader failed. -/
def badOf : Rs → Int
  | .ok _ => -1
  | .error b => b
theorem RfSt.block {w : World} {q B : Nat} {bs : List Int} {m : Int} {st : Rs} (h : RfSt w q B bs m st) : ∃ A cap a, Blk w q [.slice A bs.length cap, .int .i64 (a : Nat), .int .i64 (badOf st), .int .i64 m] 121 ∧ bs.length ≤ cap := by
  cases st with
  | ok a => obtain ⟨A, cap, hb, hc, -⟩ := h; exact ⟨A, cap, a, hb, hc⟩
  | error b => obtain ⟨-, a, A, cap, hb, hc, -⟩ := h; exact ⟨A, cap, a, hb, hc⟩

def RfTree (q B : Nat) (bs : List Int) (x : Nd) (st : Rs) (w : World) (e : Ending) (w' : World) : Prop :=
  ∃ (cs : List Value) (m' : Nat), e = .returned (.agg cs.toArray) ∧ RN w' (w.heap.size ≤ ·) x cs ∧ RfSt w' q B bs m' st ∧ Trn (· = q) w w'

set_option maxRecDepth 100000 in
set_option maxHeartbeats 2000000 in
theorem rNode35 (q B : Nat) (bs : List Int) (m : Int) (st : Rs) (w : World) (h : RfSt w q B bs m st) :
    Calls Try.prog 35 #[.pointer (some ⟨q, 0, none⟩)] w (RfTree q B bs (asked (rdTree bs) nd0 st).1 (asked (rdTree bs) nd0 st).2 w) := by
  have hq := h.low
  obtain ⟨A, cap, a, hbk, hcap⟩ := h.block
  obtain ⟨f0, f1⟩ := hbk.rules
  have hz := hbk.lt
  have hF : Fr (w.setCell ⟨q, 3, none⟩ (.int .i64 0)) ((w.setCell ⟨q, 3, none⟩ (.int .i64 0)).alloc (.cells #[.int .i64 0, .int .i64 0, .string ⟨#[]⟩, .slice none 0 0] 25)) := Fr.new _ _
  have HS0 : Hid (RfSt ((w.setCell ⟨q, 3, none⟩ (.int .i64 0)).alloc (.cells #[.int .i64 0, .int .i64 0, .string ⟨#[]⟩, .slice none 0 0] 25)) q B bs ((0 : Nat) : Int) st) := Lib.hid ((h.set3 (m' := 0)).keep hF)
  have b0 := Blk.new (w.setCell ⟨q, 3, none⟩ (.int .i64 0)) [.int .i64 0, .int .i64 0, .string ⟨#[]⟩, .slice none 0 0] 25
  rw [size_set] at b0
  have HT0 := Lib.hid (((Trn.refl (· = q) w).setp 3 (.int .i64 0)).alloc (.cells #[.int .i64 0, .int .i64 0, .string ⟨#[]⟩, .slice none 0 0] 25))
  clear h
  go_enter Try.func35, Try.ntmps35
  go_wp2_with fail
  have h40 := rNode108 q B bs 40 st 0 _ (Nat.le_refl _) (by omega) HS0.out
  rw [show (41 : Int) - ((40 : Nat) : Int) = 1 by decide] at h40
  refine h40.mono ?_
  clear h40
  rintro e w1 ⟨y, cs, m', rfl, hR, hT, hr⟩
  obtain ⟨Ay, cy, rfl, -⟩ := hR.open
  have b1 := b0.trn hT (by omega)
  have HT1 := Lib.hid (HT0.out.trans hT)
  simp only [World.size_alloc, size_set] at hR
  have HR := Lib.hid hR
  have hz1 := b1.lt
  clear f0 f1 hbk b0 hT hR
  have hFy : Fr w1 (w1.alloc (.cells #[.int .i64 y.id, .int .i64 y.kind, .string y.text, .slice Ay y.kids.length cy] 25)) := Fr.new _ _
  have b2 := b1.alloc (.cells #[.int .i64 y.id, .int .i64 y.kind, .string y.text, .slice Ay y.kids.length cy] 25)
  cases hrd : rdFrom bs 40 0 st with
  | error b =>
    rw [hrd] at hr
    have HA := Lib.hid (asked_tree_bad hrd)
    have HS1 := Lib.hid hr
    obtain ⟨A1, cap1, a1, hbk1, hcap1⟩ := RfSt.block hr
    obtain ⟨f0, f1⟩ := hbk1.rules
    have hql := hbk1.lt
    have hne : (0 : Int) ≤ b := by omega
    simp only [badOf] at f0
    clear hrd hr hbk1
    obtain ⟨r1, r2⟩ := b1.rules
    go_wp2
    have b3 := ((((b1.set 0 (.int .i64 0)).set 1 (.int .i64 0)).set 2 (.string ⟨#[]⟩)).set 3 (.slice none 0 0)).alloc (.cells #[.int .i64 y.id, .int .i64 y.kind, .string y.text, .slice Ay y.kids.length cy] 25)
    obtain ⟨q0, -⟩ := b3.rules
    refine bodyPost_ret (v := .agg zeroNd.toArray) (by simp [results, Try.results35, go_sem, q0]) rfl ?_
    rw [HA.out]
    refine ⟨_, m', rfl, nd0_reads _ _, ?_, ((((HT1.out.set (.inr (Nat.le_refl _)) _ _).set (.inr (Nat.le_refl _)) _ _).set (.inr (Nat.le_refl _)) _ _).set (.inr (Nat.le_refl _)) _ _).alloc _⟩
    refine RfSt.keep (RfSt.keepB HS1.out ?_ ?_) (Fr.new _ _)
    · (repeat (with_reducible refine Keeps.set ?_ (by omega) _ _))
      exact Keeps.refl _ _
    · simp only [size_set]; exact Nat.le_refl _
  | ok z =>
    obtain ⟨x, s⟩ := z
    rw [hrd] at hr
    obtain ⟨rfl, rfl, hr3, hr4⟩ := hr
    have HA := Lib.hid (asked_tree_ok hrd)
    have HS1 := Lib.hid hr3
    obtain ⟨A1, cap1, a1, hbk1, hcap1⟩ := RfSt.block hr3
    obtain ⟨f0, f1⟩ := hbk1.rules
    have hql := hbk1.lt
    simp only [badOf] at f0
    clear hrd hr3 hbk1
    obtain ⟨r1, r2⟩ := b1.rules
    go_wp2
    have b3 := ((((b1.set 0 (.int .i64 y.id)).set 1 (.int .i64 y.kind)).set 2 (.string y.text)).set 3 (.slice Ay y.kids.length cy)).alloc (.cells #[.int .i64 y.id, .int .i64 y.kind, .string y.text, .slice Ay y.kids.length cy] 25)
    obtain ⟨q0, -⟩ := b3.rules
    refine bodyPost_ret (v := .agg #[.int .i64 y.id, .int .i64 y.kind, .string y.text, .slice Ay y.kids.length cy]) (by simp [results, Try.results35, go_sem, q0]) rfl ?_
    rw [HA.out]
    refine ⟨_, s.2, rfl, ?_, ?_, ((((HT1.out.set (.inr (Nat.le_refl _)) _ _).set (.inr (Nat.le_refl _)) _ _).set (.inr (Nat.le_refl _)) _ _).set (.inr (Nat.le_refl _)) _ _).alloc _⟩
    · refine RN.mono (RN.keep (RN.keep HR.out ?_) (Fr.new _ _).keeps.all) (fun k (hk : w.heap.size + 1 ≤ k) _ => (by omega : w.heap.size ≤ k))
      (repeat (with_reducible refine Keeps.set ?_ (by omega) _ _))
      exact Keeps.refl _ _
    · refine RfSt.keep (RfSt.keepB HS1.out ?_ ?_) (Fr.new _ _)
      · (repeat (with_reducible refine Keeps.set ?_ (by omega) _ _))
        exact Keeps.refl _ _
      · simp only [size_set]; exact Nat.le_refl _

/-! ### Steps -/

def stp0 : Stp := ⟨0, 0, 0, 0, ⟨#[]⟩, nd0⟩
abbrev zeroStp : List Value := [.int .i8 0, .int .i64 0, .int .i64 0, .int .i64 0, .string ⟨#[]⟩, .int .i64 0, .int .i64 0, .string ⟨#[]⟩, .slice none 0 0]

theorem asked_ok {α : Type} {f : Nat → Except Nat (α × Nat)} {z x : α} {st : Rs} {a : Nat} (h : asked f z st = (x, .ok a)) : ∃ a0, st = .ok a0 ∧ f a0 = .ok (x, a) := by
  cases st with
  | error b => simp [asked] at h
  | ok a0 =>
    refine ⟨a0, rfl, ?_⟩
    unfold asked at h
    cases hf : f a0 with
    | error b => simp [hf] at h
    | ok r => obtain ⟨y, a'⟩ := r; simp [hf] at h; obtain ⟨rfl, rfl⟩ := h; rfl
theorem asked_bad {α : Type} {f : Nat → Except Nat (α × Nat)} {z x : α} {st : Rs} {b : Nat} (h : asked f z st = (x, .error b)) : x = z ∧ (st = .error b ∨ ∃ a0, st = .ok a0 ∧ f a0 = .error b) := by
  cases st with
  | error b' => simp [asked] at h; obtain ⟨rfl, rfl⟩ := h; exact ⟨rfl, .inl rfl⟩
  | ok a0 =>
    unfold asked at h
    cases hf : f a0 with
    | error b' => simp [hf] at h; obtain ⟨rfl, rfl⟩ := h; exact ⟨rfl, .inr ⟨a0, rfl, hf⟩⟩
    | ok r => obtain ⟨y, a'⟩ := r; simp [hf] at h

def thenStp (x : Stp) : Rs → Stp × Rs
  | .error b => (stp0, .error b)
  | .ok a => (x, .ok a)

theorem step_chain {bs : List Int} {st s1 s2 s3 s4 s5 s6 : Rs} {op id parent place : Int} {text : ByteArray} {sub : Nd}
    (h1 : asked (rdSmall bs) 0 st = (op, s1)) (h2 : asked (rdNum bs) 0 s1 = (id, s2)) (h3 : asked (rdNum bs) 0 s2 = (parent, s3)) (h4 : asked (rdNum bs) 0 s3 = (place, s4))
    (h5 : asked (rdText bs) ⟨#[]⟩ s4 = (text, s5)) (h6 : asked (rdTree bs) nd0 s5 = (sub, s6)) :
    asked (rdStep bs) stp0 st = thenStp ⟨op, id, parent, place, text, sub⟩ s6 := by
  have key : ∀ b, (st = .error b ∨ ∃ a, st = .ok a ∧ rdStep bs a = .error b) → asked (rdStep bs) stp0 st = (stp0, .error b) := by
    rintro b (rfl | ⟨a, rfl, h⟩)
    · rfl
    · simp [asked, h]
  cases s6 with
  | error b =>
    refine key b ?_
    rcases (asked_bad h6).2 with rfl | ⟨a5, rfl, e6⟩
    · rcases (asked_bad h5).2 with rfl | ⟨a4, rfl, e5⟩
      · rcases (asked_bad h4).2 with rfl | ⟨a3, rfl, e4⟩
        · rcases (asked_bad h3).2 with rfl | ⟨a2, rfl, e3⟩
          · rcases (asked_bad h2).2 with rfl | ⟨a1, rfl, e2⟩
            · rcases (asked_bad h1).2 with rfl | ⟨a0, rfl, e1⟩
              · exact .inl rfl
              · exact .inr ⟨a0, rfl, by simp [rdStep, e1]⟩
            · obtain ⟨a0, rfl, e1⟩ := asked_ok h1
              exact .inr ⟨a0, rfl, by simp [rdStep, e1, e2]⟩
          · obtain ⟨a1, rfl, e2⟩ := asked_ok h2; obtain ⟨a0, rfl, e1⟩ := asked_ok h1
            exact .inr ⟨a0, rfl, by simp [rdStep, e1, e2, e3]⟩
        · obtain ⟨a2, rfl, e3⟩ := asked_ok h3; obtain ⟨a1, rfl, e2⟩ := asked_ok h2; obtain ⟨a0, rfl, e1⟩ := asked_ok h1
          exact .inr ⟨a0, rfl, by simp [rdStep, e1, e2, e3, e4]⟩
      · obtain ⟨a3, rfl, e4⟩ := asked_ok h4; obtain ⟨a2, rfl, e3⟩ := asked_ok h3; obtain ⟨a1, rfl, e2⟩ := asked_ok h2; obtain ⟨a0, rfl, e1⟩ := asked_ok h1
        exact .inr ⟨a0, rfl, by simp [rdStep, e1, e2, e3, e4, e5]⟩
    · obtain ⟨a4, rfl, e5⟩ := asked_ok h5; obtain ⟨a3, rfl, e4⟩ := asked_ok h4; obtain ⟨a2, rfl, e3⟩ := asked_ok h3; obtain ⟨a1, rfl, e2⟩ := asked_ok h2; obtain ⟨a0, rfl, e1⟩ := asked_ok h1
      exact .inr ⟨a0, rfl, by simp [rdStep, e1, e2, e3, e4, e5, e6]⟩
  | ok a =>
    obtain ⟨a5, rfl, e6⟩ := asked_ok h6; obtain ⟨a4, rfl, e5⟩ := asked_ok h5; obtain ⟨a3, rfl, e4⟩ := asked_ok h4; obtain ⟨a2, rfl, e3⟩ := asked_ok h3; obtain ⟨a1, rfl, e2⟩ := asked_ok h2; obtain ⟨a0, rfl, e1⟩ := asked_ok h1
    simp [asked, rdStep, thenStp, e1, e2, e3, e4, e5, e6]
theorem asked_small_wf {bs : List Int} {st s : Rs} {x : Int} (h : asked (rdSmall bs) 0 st = (x, s)) : (Lit.int .i8 x).wf = true := by
  cases st with
  | error b => simp [asked] at h; obtain ⟨rfl, -⟩ := h; decide
  | ok a =>
    by_cases hc : bs.length < a + 1
    · simp [asked, rdSmall, hc] at h; obtain ⟨rfl, -⟩ := h; decide
    · simp [asked, rdSmall, hc] at h; obtain ⟨rfl, -⟩ := h; exact wf_wrap .i8 _

theorem stp0_reads (w : World) (S : Nat → Prop) : RStp w S stp0 zeroStp := ⟨zeroNd, rfl, nd0_reads w S, by decide, by decide, by decide, by decide, Nat.zero_le _⟩

def RfStep (q B : Nat) (bs : List Int) (x : Stp) (st : Rs) (w : World) (e : Ending) (w' : World) : Prop :=
  ∃ (cs : List Value) (m' : Int), e = .returned (.agg cs.toArray) ∧ RStp w' (w.heap.size ≤ ·) x cs ∧ RfSt w' q B bs m' st ∧ Trn (· = q) w w'

set_option maxRecDepth 100000 in
set_option maxHeartbeats 4000000 in
theorem rStep114 (q B : Nat) (bs : List Int) (m : Int) (st : Rs) (w : World) (h : RfSt w q B bs m st) (hl : bs.length ≤ 1000000) :
    Calls Try.prog 114 #[.pointer (some ⟨q, 0, none⟩)] w (RfStep q B bs (asked (rdStep bs) stp0 st).1 (asked (rdStep bs) stp0 st).2 w) := by
  have hq := h.low
  have hF : Fr w (w.alloc (.cells #[.int .i8 0, .int .i64 0, .int .i64 0, .int .i64 0, .string ⟨#[]⟩, .int .i64 0, .int .i64 0, .string ⟨#[]⟩, .slice none 0 0] 27)) := Fr.new _ _
  have b0 := Blk.new w zeroStp 27
  have HT0 : Hid (Trn (· = q) w (w.alloc (.cells #[.int .i8 0, .int .i64 0, .int .i64 0, .int .i64 0, .string ⟨#[]⟩, .int .i64 0, .int .i64 0, .string ⟨#[]⟩, .slice none 0 0] 27))) := Lib.hid (Trn.of_fr hF)
  have HS0 := Lib.hid (h.keep hF)
  clear h
  go_enter Try.func114, Try.ntmps114
  go_wp2_with fail
  refine (rSmall q B bs m st _ HS0.out).mono ?_
  rintro e w1 ⟨rfl, hS, hT⟩
  have b1 := b0.trn hT (by omega)
  obtain ⟨op, s1, hn⟩ : ∃ x s, asked (rdSmall bs) 0 st = (x, s) := ⟨_, _, rfl⟩
  rw [hn] at hS
  have HS1 := Lib.hid hS
  have HT1 := Lib.hid (HT0.out.trans hT)
  rw [hn]
  have Hn1 := Lib.hid hn
  clear hS hT hn b0
  go_wp2_with fail
  refine (rNumber q B bs m s1 _ HS1.out).mono ?_
  rintro e w2 ⟨rfl, hS, hT⟩
  have b2 := b1.trn hT (by omega)
  obtain ⟨id, s2, hn⟩ : ∃ x s, asked (rdNum bs) 0 s1 = (x, s) := ⟨_, _, rfl⟩
  rw [hn] at hS
  have HS2 := Lib.hid hS
  have HT2 := Lib.hid (HT1.out.trans hT)
  rw [hn]
  have Hn2 := Lib.hid hn
  clear hS hT hn b1
  go_wp2_with fail
  refine (rNumber q B bs m s2 _ HS2.out).mono ?_
  rintro e w3 ⟨rfl, hS, hT⟩
  have b3 := b2.trn hT (by omega)
  obtain ⟨parent, s3, hn⟩ : ∃ x s, asked (rdNum bs) 0 s2 = (x, s) := ⟨_, _, rfl⟩
  rw [hn] at hS
  have HS3 := Lib.hid hS
  have HT3 := Lib.hid (HT2.out.trans hT)
  rw [hn]
  have Hn3 := Lib.hid hn
  clear hS hT hn b2
  go_wp2_with fail
  refine (rNumber q B bs m s3 _ HS3.out).mono ?_
  rintro e w4 ⟨rfl, hS, hT⟩
  have b4 := b3.trn hT (by omega)
  obtain ⟨place, s4, hn⟩ : ∃ x s, asked (rdNum bs) 0 s3 = (x, s) := ⟨_, _, rfl⟩
  rw [hn] at hS
  have HS4 := Lib.hid hS
  have HT4 := Lib.hid (HT3.out.trans hT)
  rw [hn]
  have Hn4 := Lib.hid hn
  clear hS hT hn b3
  go_wp2_with fail
  refine (rText q B bs m s4 _ HS4.out).mono ?_
  rintro e w5 ⟨rfl, hS, hT⟩
  have b5 := b4.trn hT (by omega)
  obtain ⟨text, s5, hn⟩ : ∃ x s, asked (rdText bs) ⟨#[]⟩ s4 = (x, s) := ⟨_, _, rfl⟩
  rw [hn] at hS
  have HS5 := Lib.hid hS
  have HT5 := Lib.hid (HT4.out.trans hT)
  rw [hn]
  have Hn5 := Lib.hid hn
  clear hS hT hn b4
  go_wp2_with fail
  refine (rNode35 q B bs m s5 _ HS5.out).mono ?_
  rintro e w6 ⟨cs, m', rfl, hR, hS, hT⟩
  have b6 := b5.trn hT (by omega)
  have hz5 := b5.lt
  obtain ⟨sub, s6, hn⟩ : ∃ x s, asked (rdTree bs) nd0 s5 = (x, s) := ⟨_, _, rfl⟩
  rw [hn] at hS hR
  obtain ⟨Ay, cy, rfl, -⟩ := hR.open
  have HS6 := Lib.hid hS
  have HT6 := Lib.hid (HT5.out.trans hT)
  have HR := Lib.hid hR
  have Hch := Lib.hid (step_chain Hn1.out Hn2.out Hn3.out Hn4.out Hn5.out hn)
  have wf0 := asked_small_wf Hn1.out
  have wf1 := asked_num_wf Hn2.out
  have wf2 := asked_num_wf Hn3.out
  have wf3 := asked_num_wf Hn4.out
  have wf4 := asked_text_le Hn5.out hl
  obtain ⟨A1, cap1, a1, hbk1, hcap1⟩ := RfSt.block hS
  obtain ⟨f0, f1⟩ := hbk1.rules
  have hql := hbk1.lt
  obtain ⟨r1, r2⟩ := b6.rules
  have hz6 := b6.lt
  clear hn hR hT hS b5 hbk1
  cases s6 with
  | error b =>
    have hne : (0 : Int) ≤ b := by omega
    simp only [badOf] at f0
    simp only [thenStp] at Hch
    go_wp2
    have b7 := (((((((((b6.set 0 (.int .i8 0)).set 1 (.int .i64 0)).set 2 (.int .i64 0)).set 3 (.int .i64 0)).set 4 (.string ⟨#[]⟩)).set 5 (.int .i64 0)).set 6 (.int .i64 0)).set 7 (.string ⟨#[]⟩)).set 8 (.slice none 0 0)).alloc (.cells #[.int .i64 sub.id, .int .i64 sub.kind, .string sub.text, .slice Ay sub.kids.length cy] 25)
    obtain ⟨q0, -⟩ := b7.rules
    refine bodyPost_ret (v := .agg #[.int .i8 0, .int .i64 0, .int .i64 0, .int .i64 0, .string ⟨#[]⟩, .int .i64 0, .int .i64 0, .string ⟨#[]⟩, .slice none 0 0]) (by simp [results, Try.results114, go_sem, q0]) rfl ?_
    rw [Hch.out]
    refine ⟨_, m', rfl, stp0_reads _ _, ?_, ?_⟩
    · refine RfSt.keep (RfSt.keepB HS6.out ?_ ?_) (Fr.new _ _)
      · (repeat (with_reducible refine Keeps.set ?_ (by omega) _ _))
        exact Keeps.refl _ _
      · simp only [size_set]; exact Nat.le_refl _
    · refine Trn.alloc ?_ _
      (repeat (with_reducible refine Trn.set ?_ (.inr (Nat.le_refl _)) _ _))
      exact HT6.out
  | ok a =>
    simp only [badOf] at f0
    simp only [thenStp] at Hch
    go_wp2
    have b7 := (((((((((b6.set 0 (.int .i8 op)).set 1 (.int .i64 id)).set 2 (.int .i64 parent)).set 3 (.int .i64 place)).set 4 (.string text)).set 5 (.int .i64 sub.id)).set 6 (.int .i64 sub.kind)).set 7 (.string sub.text)).set 8 (.slice Ay sub.kids.length cy)).alloc (.cells #[.int .i64 sub.id, .int .i64 sub.kind, .string sub.text, .slice Ay sub.kids.length cy] 25)
    obtain ⟨q0, -⟩ := b7.rules
    refine bodyPost_ret (v := .agg #[.int .i8 op, .int .i64 id, .int .i64 parent, .int .i64 place, .string text, .int .i64 sub.id, .int .i64 sub.kind, .string sub.text, .slice Ay sub.kids.length cy]) (by simp [results, Try.results114, go_sem, q0]) rfl ?_
    rw [Hch.out]
    refine ⟨_, m', rfl, ⟨[.int .i64 sub.id, .int .i64 sub.kind, .string sub.text, .slice Ay sub.kids.length cy], rfl, ?_, wf0, wf1, wf2, wf3, wf4⟩, ?_, ?_⟩
    · refine RN.mono (RN.keep (RN.keep HR.out ?_) (Fr.new _ _).keeps.all) (fun k (hk : w5.heap.size ≤ k) _ => (by omega : w.heap.size ≤ k))
      (repeat (with_reducible refine Keeps.set ?_ (by omega) _ _))
      exact Keeps.refl _ _
    · refine RfSt.keep (RfSt.keepB HS6.out ?_ ?_) (Fr.new _ _)
      · (repeat (with_reducible refine Keeps.set ?_ (by omega) _ _))
        exact Keeps.refl _ _
      · simp only [size_set]; exact Nat.le_refl _
    · refine Trn.alloc ?_ _
      (repeat (with_reducible refine Trn.set ?_ (.inr (Nat.le_refl _)) _ _))
      exact HT6.out
end Go.Proofs.Ytbhmpbaembmlnaa
