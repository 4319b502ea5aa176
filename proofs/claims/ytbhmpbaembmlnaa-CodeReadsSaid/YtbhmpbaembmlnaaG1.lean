/- allotmentlaw03.wakes. -/
import Derived.Test.YtbhmpbaembmlnaaG0
import Derived.Test.YtbhmpbaembmlnaaA3
set_option linter.unusedVariables false
namespace Go.Proofs.Ytbhmpbaembmlnaa
open Go.RowKit

theorem zeros_slice (w : World) (n : Nat) : SlT elB (w.alloc (.cells (List.replicate n (Value.int .u8 0)).toArray 5)) (.slice (some ⟨w.heap.size, 0, none⟩) n n) (List.replicate n 0) := by
  refine ⟨_, _, by rw [List.length_replicate], by rw [List.length_replicate]; exact Nat.le_refl _, fun _ => ⟨w.heap.size, 0, rfl, trivial, by simp, fun j y hy => ?_⟩⟩
  rw [List.getElem?_replicate] at hy
  split at hy
  · rename_i hj
    injection hy with hy; subst hy
    refine ⟨[.int .u8 0], fun i u hu => ?_, rfl, by decide⟩
    match i, hu with
    | 0, hu =>
      injection hu with hu; subst hu
      have := (Blk.new w (List.replicate n (Value.int .u8 0)) 5).cell j
      rw [List.getElem?_replicate, if_pos hj] at this
      rw [show 0 + j * elB.size + 0 = j by show 0 + j * 1 + 0 = _; omega]
      exact this
    | i + 1, hu => simp at hu
  · cases hy

/-! ### Two readers side by side -/

def NoByte (w : World) (g : Nat) : Prop := ∀ off x, w.cell? ⟨g, off, none⟩ ≠ some (.int .u8 x)

theorem Row.avoid {w : World} {S : Nat → Prop} {A : Option Addr} {bs : List Int} {g : Nat} (h : Row elB w S A bs) (hg : NoByte w g) : Row elB w (fun k => S k ∧ k ≠ g) A bs := fun hn => by
  obtain ⟨g', off, hA, hS, hl, hx⟩ := h hn
  refine ⟨g', off, hA, ⟨hS, ?_⟩, hl, fun j x hj => let ⟨cs, hc, hr⟩ := hx j x hj; ⟨cs, hc, hr⟩⟩
  rintro rfl
  obtain ⟨x, hx0⟩ := get_some (l := bs) (k := 0) (List.length_pos_iff.2 hn)
  obtain ⟨cs, hc, hr, -⟩ := hx 0 x hx0
  subst hr
  exact hg _ _ (hc 0 _ rfl)
theorem RdAt.noByte {w : World} {p B : Nat} {bs : List Int} {a : Nat} {bad : Int} (h : RdAt w p B bs a bad) : NoByte w p := by
  obtain ⟨A, cap, hb, -⟩ := h
  intro off x
  rw [hb.rules.1 off]
  match off with
  | 0 => simp
  | 1 => simp
  | 2 => simp
  | off + 3 => simp
theorem PubAt.noByte {w : World} {p B : Nat} {bs : List Int} {st : Rs} (h : PubAt w p B bs st) : NoByte w p := by
  cases st with
  | ok a => exact RdAt.noByte h
  | error b => exact h.2.elim fun a ha => ha.noByte
theorem RfSt.noByte {w : World} {q B : Nat} {bs : List Int} {m : Int} {st : Rs} (h : RfSt w q B bs m st) : NoByte w q := by
  have key : ∀ a bad, RfAt w q B bs a bad m → NoByte w q := by
    rintro a bad ⟨A, cap, hb, -⟩ off x
    rw [hb.rules.1 off]
    match off with
    | 0 => simp
    | 1 => simp
    | 2 => simp
    | 3 => simp
    | off + 4 => simp
  cases st with
  | ok a => exact key _ _ h
  | error b => exact h.2.elim fun a ha => key _ _ ha
theorem PubAt.other {w w' : World} {p B g : Nat} {bs : List Int} {st : Rs} (h : PubAt w p B bs st) (hg : NoByte w g) (hne : p ≠ g) (hT : Trn (· = g) w w') : PubAt w' p B bs st := by
  have key : ∀ a bad, RdAt w p B bs a bad → RdAt w' p B bs a bad := by
    rintro a bad ⟨A, cap, hb, hc, hr, h1, h2, h3, h4⟩
    exact ⟨A, cap, hb.trn hT hne, hc, ((hr.avoid hg).keep (hT.keeps.weaken fun k hk _ => hk.2) hT.size).mono fun k hk _ => hk.1, h1, h2, h3, Nat.le_trans h4 hT.size⟩
  cases st with
  | ok a => exact key _ _ h
  | error b => exact ⟨h.1, h.2.elim fun a ha => ⟨a, key _ _ ha⟩⟩
theorem RfSt.other {w w' : World} {q B g : Nat} {bs : List Int} {m : Int} {st : Rs} (h : RfSt w q B bs m st) (hg : NoByte w g) (hne : q ≠ g) (hT : Trn (· = g) w w') : RfSt w' q B bs m st := by
  have key : ∀ a bad, RfAt w q B bs a bad m → RfAt w' q B bs a bad m := by
    rintro a bad ⟨A, cap, hb, hc, hr, h1, h2, h3, h4⟩
    exact ⟨A, cap, hb.trn hT hne, hc, ((hr.avoid hg).keep (hT.keeps.weaken fun k hk _ => hk.2) hT.size).mono fun k hk _ => hk.1, h1, h2, h3, Nat.le_trans h4 hT.size⟩
  cases st with
  | ok a => exact key _ _ h
  | error b => exact ⟨h.1, h.2.elim fun a ha => ⟨a, key _ _ ha⟩⟩
theorem PubAt.lt {w : World} {p B : Nat} {bs : List Int} {st : Rs} (h : PubAt w p B bs st) : p < w.heap.size := by
  cases st with
  | ok a => exact RdAt.lt h
  | error b => exact h.2.elim fun a ha => ha.lt

theorem wake_num7 : asked (rdNum (List.replicate 7 0)) 0 (.ok 0) = (0, .error 7) := rfl
theorem wake_num9 : asked (rdNum (List.replicate 9 0)) 0 (.ok 0) = (0, .ok 8) := by kernel_rfl
theorem wake_end7 : ended (List.replicate 7 0) (.error 7) = (7, 30) := rfl
theorem wake_end9 : ended (List.replicate 9 0) (.ok 8) = (8, 30) := rfl
theorem wake_text : ([] ++ (putNum (⟨#[97, 98]⟩ : ByteArray).size ++ putStr ⟨#[97, 98]⟩)) = [0, 0, 0, 0, 0, 0, 0, 2, 97, 98] := by kernel_rfl
theorem wake_str : strOfNums [0, 0, 0, 0, 0, 0, 0, 2, 97, 98] = ⟨#[0, 0, 0, 0, 0, 0, 0, 2, 97, 98]⟩ := by kernel_rfl

set_option maxRecDepth 100000 in
set_option maxHeartbeats 2000000 in
theorem wakes25 (w : World) : Calls Try.prog 25 #[] w fun e w' => e = .returned (.bool true) ∧ Fr w w' := by
  have hmk7 : ∀ w, (Instr.makeSlice 36 (.int .i64 7) (.int .i64 7)).run Try.prog w = .ok (.slice (some ⟨w.heap.size, 0, none⟩) 7 7) (w.alloc (.cells (List.replicate 7 (Value.int .u8 0)).toArray 5)) := fun _ => by kernel_rfl
  have hmk9 : ∀ w, (Instr.makeSlice 36 (.int .i64 9) (.int .i64 9)).run Try.prog w = .ok (.slice (some ⟨w.heap.size, 0, none⟩) 9 9) (w.alloc (.cells (List.replicate 9 (Value.int .u8 0)).toArray 5)) := fun _ => by kernel_rfl
  go_enter Try.func25, Try.ntmps25
  go_wp2_with fail
  refine (cNew (List.replicate 7 0) _ _ (zeros_slice w 7) (by simp)).mono ?_
  rintro e w1 ⟨p1, B1, rfl, hP1, hp1, hF1⟩
  have HF1 := Lib.hid ((Fr.new w _).trans hF1)
  have HP1 := Lib.hid hP1
  clear hmk7 hP1 hF1
  go_wp2_with fail
  refine (cNew (List.replicate 9 0) _ _ (zeros_slice w1 9) (by simp)).mono ?_
  rintro e w2 ⟨p2, B2, rfl, hP2, hp2, hF2⟩
  have HF2 := Lib.hid (HF1.out.trans ((Fr.new w1 _).trans hF2))
  have HP12 := Lib.hid (HP1.out.keep ((Fr.new w1 _).trans hF2))
  have HP2 := Lib.hid hP2
  have hl1 := HP1.out.lt
  simp only [World.size_alloc] at hp1 hp2
  have hne : p1 ≠ p2 := by omega
  have hne' : p2 ≠ p1 := by omega
  clear hmk9 hP2 hF2
  go_wp2_with fail
  refine (pNumber p1 B1 _ _ _ HP12.out).mono ?_
  rintro e w3 ⟨x, hx, rfl, -, hP, hT⟩
  rw [wake_num7] at hx hP
  obtain rfl : x = 0 := hx
  have HP13 := Lib.hid hP
  have HP23 := Lib.hid (HP2.out.other HP12.out.noByte hne' hT)
  have HT3 := Lib.hid hT
  clear hP hT
  go_wp2_with fail
  refine (pNumber p2 B2 _ _ _ HP23.out).mono ?_
  rintro e w4 ⟨x, hx, rfl, -, hP, hT⟩
  rw [wake_num9] at hx hP
  obtain rfl : x = 0 := hx
  have HP24 := Lib.hid hP
  have HP14 := Lib.hid (HP13.out.other HP23.out.noByte hne hT)
  have HF4 : Hid (Fr w w4) := Lib.hid (Trn.fr (Trn.fr HF2.out HT3.out (fun i hi => by omega)) hT (fun i hi => by have := HF1.out.size; omega))
  clear hP hT
  go_wp2_with fail
  refine (pEnd p1 B1 _ _ _ HP14.out).mono ?_
  rintro e w5 ⟨rfl, hF⟩
  rw [wake_end7]
  have HF5 := Lib.hid (HF4.out.trans hF)
  have HP25 := Lib.hid (HP24.out.keep hF)
  clear hF
  go_wp2_with fail
  refine (pEnd p2 B2 _ _ _ HP25.out).mono ?_
  rintro e w6 ⟨rfl, hF⟩
  rw [wake_end9]
  have HF6 := Lib.hid (HF5.out.trans hF)
  clear hF
  go_wp2_with fail
  refine (cText64 ⟨#[97, 98]⟩ [] (.slice none 0 0) _ ⟨none, 0, rfl, Nat.le_refl _, Row.nil _ _ _ _⟩ (by simp) (by decide)).mono ?_
  rintro e w7 ⟨v7, rfl, hO, hF⟩
  rw [wake_text] at hO
  have HF7 := Lib.hid (HF6.out.trans hF)
  obtain ⟨A7, cap7, rfl, hcap7, hrow7⟩ := hO.reads
  obtain ⟨g, off, rfl, -, -, -⟩ := hrow7 (by simp)
  have hconv := run_convert_bytes_arg w7 36 5 Try.underlying36 Try.underlying5 g off 10 cap7 [0, 0, 0, 0, 0, 0, 0, 2, 97, 98] rfl (fun i hi => by
    obtain ⟨x, hx⟩ := get_some (l := [(0 : Int), 0, 0, 0, 0, 0, 0, 2, 97, 98]) (k := i) hi
    rw [(row_byte hrow7 hx).1, List.getD_eq_getElem?_getD, hx]
    rfl) 9 Try.underlying9
  rw [wake_str] at hconv
  clear hF hO hrow7
  simp only [List.length_cons, List.length_nil, Nat.zero_add, Nat.reduceAdd]
  go_wp2
  go_ret
  exact ⟨rfl, HF7.out⟩
end Go.Proofs.Ytbhmpbaembmlnaa
