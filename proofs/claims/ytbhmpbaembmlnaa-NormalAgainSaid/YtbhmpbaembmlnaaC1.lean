/- allotmentlaw12.wakes. -/
import Derived.Test.YtbhmpbaembmlnaaC0
set_option linter.unusedVariables false
namespace Go.Proofs.Ytbhmpbaembmlnaa
open Go.RowKit

/-- Steps in new memory. -/
theorem many_slice {w : World} {xs : List Stp} {css : List (List Value)} (hl : css.length = xs.length) (hr : ∀ (j : Nat) (x : Stp) (cs : List Value), xs[j]? = some x → css[j]? = some cs → RP w x cs) :
    SlT elStp (w.alloc (.cells css.flatten.toArray 27)) (.slice (some ⟨w.heap.size, 0, none⟩) xs.length xs.length) xs := by
  have hm : ∀ cs ∈ css, cs.length = 9 := by
    intro cs hcs
    obtain ⟨j, hj, rfl⟩ := List.mem_iff_getElem.1 hcs
    obtain ⟨x, hx⟩ := get_some (l := xs) (k := j) (by omega)
    exact elStp.len (hr j x _ hx (List.getElem?_eq_getElem hj))
  refine ⟨_, _, rfl, Nat.le_refl _, fun _ => ⟨w.heap.size, 0, rfl, trivial, by simp, fun j x hx => ?_⟩⟩
  obtain ⟨cs, hcs⟩ := get_some (l := css) (k := j) (by have := get_lt hx; omega)
  have hR := hr j x cs hx hcs
  refine ⟨cs, fun i u hu => ?_, hR.later (Fr.new w _)⟩
  have h9 := hm cs (List.mem_of_getElem? hcs)
  have := (Blk.new w css.flatten 27).cell (j * 9 + i)
  rw [flatten_get (by have := get_lt hu; omega) hm, hcs] at this
  rw [Nat.zero_add]
  exact this.trans hu

def tx (id : Int) (s : ByteArray) : Stp := ⟨4, id, 0, 0, s, ⟨0, 0, ⟨#[]⟩, []⟩⟩
abbrev txCells (id : Int) (s : ByteArray) : List Value := [.int .i8 4, .int .i64 id, .int .i64 0, .int .i64 0, .string s, .int .i64 0, .int .i64 0, .string ⟨#[]⟩, .slice none 0 0]
theorem wf0 : (Lit.int .i64 0).wf = true := by decide
theorem wf4 : (Lit.int .i8 4).wf = true := by decide
theorem bare (w : World) (id : Int) (hi : (Lit.int .i64 id).wf = true) : RT w ⟨id, 0, ⟨#[]⟩, []⟩ [.int .i64 id, .int .i64 0, .string ⟨#[]⟩, .slice none 0 0] :=
  RN.close (t := ⟨id, 0, ⟨#[]⟩, []⟩) (A := none) (cap := 0) (Nat.le_refl _) (by simp) (Row.nil _ _ _ _) hi wf0 (Nat.zero_le _)
theorem tx_reads (w : World) (id : Int) (hi : (Lit.int .i64 id).wf = true) (s : ByteArray) (hs : s.size ≤ maxLen) : RP w (tx id s) (txCells id s) :=
  ⟨_, rfl, bare w 0 wf0, wf4, hi, wf0, wf0, hs⟩

def wakeOne : List Stp := [tx 2 ⟨#[97]⟩, tx 2 ⟨#[98]⟩, tx 3 ⟨#[99]⟩]
def wakeTwo : List Stp := [⟨1, 0, 1, 0, ⟨#[]⟩, ⟨5, 0, ⟨#[]⟩, []⟩⟩, tx 5 ⟨#[97]⟩, tx 5 ⟨#[98]⟩, ⟨2, 5, 0, 0, ⟨#[]⟩, ⟨0, 0, ⟨#[]⟩, []⟩⟩]
theorem of_one : ofS wakeOne = [tx 2 ⟨#[98]⟩, tx 3 ⟨#[99]⟩] := by
  simp [ofS, wakeOne, ofN, onceS, pairS, rule1, rule3, rule4, tx]
theorem of_two : ofS wakeTwo = [] := by
  simp [ofS, wakeTwo, ofN, onceS, pairS, rule1, rule3, rule4, tx, Nd.withText]
theorem is_one : onceS [tx 2 ⟨#[98]⟩, tx 3 ⟨#[99]⟩] = none := by
  simp [onceS, pairS, rule1, rule3, rule4, tx]
theorem is_two : onceS [tx 2 ⟨#[97]⟩, tx 2 ⟨#[98]⟩] = some [tx 2 ⟨#[98]⟩] := by
  simp [onceS, pairS, rule1, rule3, rule4, tx]

set_option maxRecDepth 100000 in
set_option maxHeartbeats 4000000 in
theorem wakes12 (w : World) : Calls Try.prog 19 #[] w fun e w' => e = .returned (.bool true) ∧ Fr w w' := by
  go_enter Try.func19, Try.ntmps19
  go_wp2_with fail
  refine (lText 2 ⟨#[97]⟩ _).mono ?_
  rintro e w1 ⟨rfl, h1⟩
  go_wp2_with fail
  refine (lText 2 ⟨#[98]⟩ _).mono ?_
  rintro e w2 ⟨rfl, h2⟩
  go_wp2_with fail
  refine (lText 3 ⟨#[99]⟩ _).mono ?_
  rintro e w3 ⟨rfl, h3⟩
  have H3 := Lib.hid ((h1.trans h2).trans h3)
  clear h1 h2 h3
  go_wp2_with fail
  have hs := many_slice (w := w3) (xs := wakeOne) (css := [txCells 2 ⟨#[97]⟩, txCells 2 ⟨#[98]⟩, txCells 3 ⟨#[99]⟩]) rfl (by
    intro j x cs hx hcs
    match j with
    | 0 => injection hx with hx; injection hcs with hcs; subst hx; subst hcs; exact tx_reads _ _ (by decide) _ (by decide)
    | 1 => injection hx with hx; injection hcs with hcs; subst hx; subst hcs; exact tx_reads _ _ (by decide) _ (by decide)
    | 2 => injection hx with hx; injection hcs with hcs; subst hx; subst hcs; exact tx_reads _ _ (by decide) _ (by decide)
    | j + 3 => simp [wakeOne] at hx)
  refine (nOf wakeOne _ _ hs (by decide)).mono ?_
  rintro e w4 ⟨A, cap, rfl, hs1, hf1⟩
  rw [of_one] at hs1 ⊢
  have H4 := Lib.hid (H3.out.trans ((Fr.new w3 _).trans hf1))
  have Hs1 := Lib.hid hs1
  clear hs hs1 hf1
  simp only [List.length_cons, List.length_nil, Nat.zero_add, Nat.reduceAdd] at Hs1 ⊢
  go_wp2_with fail
  refine (lText 5 ⟨#[97]⟩ _).mono ?_
  rintro e w5 ⟨rfl, h5⟩
  go_wp2_with fail
  refine (lText 5 ⟨#[98]⟩ _).mono ?_
  rintro e w6 ⟨rfl, h6⟩
  have H6 := Lib.hid (h5.trans h6)
  clear h5 h6
  go_wp2_with fail
  have hs := many_slice (w := w6) (xs := wakeTwo) (css := [[.int .i8 1, .int .i64 0, .int .i64 1, .int .i64 0, .string ⟨#[]⟩, .int .i64 5, .int .i64 0, .string ⟨#[]⟩, .slice none 0 0], txCells 5 ⟨#[97]⟩, txCells 5 ⟨#[98]⟩, [.int .i8 2, .int .i64 5, .int .i64 0, .int .i64 0, .string ⟨#[]⟩, .int .i64 0, .int .i64 0, .string ⟨#[]⟩, .slice none 0 0]]) rfl (by
    intro j x cs hx hcs
    match j with
    | 0 => injection hx with hx; injection hcs with hcs; subst hx; subst hcs; exact ⟨_, rfl, bare _ 5 (by decide), by decide, by decide, by decide, by decide, by decide⟩
    | 1 => injection hx with hx; injection hcs with hcs; subst hx; subst hcs; exact tx_reads _ _ (by decide) _ (by decide)
    | 2 => injection hx with hx; injection hcs with hcs; subst hx; subst hcs; exact tx_reads _ _ (by decide) _ (by decide)
    | 3 => injection hx with hx; injection hcs with hcs; subst hx; subst hcs; exact ⟨_, rfl, bare _ 0 wf0, by decide, by decide, by decide, by decide, by decide⟩
    | j + 4 => simp [wakeTwo] at hx)
  refine (nOf wakeTwo _ _ hs (by decide)).mono ?_
  rintro e w7 ⟨A2, cap2, rfl, hs2, hf2⟩
  rw [of_two] at ⊢
  have hF7 := H6.out.trans ((Fr.new w6 _).trans hf2)
  have H7 := Lib.hid (H4.out.trans hF7)
  have Hs7 := Lib.hid (Hs1.out.later hF7)
  clear hs hs2 hf2 hF7 Hs1 H6 H4 H3
  obtain ⟨A', cap', hv, hcap, hrow⟩ := Hs7.out
  injection hv with hv1 hv2 hv3
  subst hv1; subst hv3
  obtain ⟨g, off, B, c1, rfl, -, hgl, ⟨a0, a1, a2, a3, a4, a5, a6, a7, a8⟩, -, -⟩ := hrow.stp (j := 0) rfl
  obtain ⟨g', off', B', c2, hA, -, -, ⟨b0, b1, b2, b3, b4, b5, b6, b7, b8⟩, -, -⟩ := hrow.stp (j := 1) rfl
  injection hA with hA; injection hA with hA1 hA2; subst hA1; subst hA2
  clear hrow a0 a1 a2 a3 a5 a6 a7 a8 b0 b1 b2 b3 b5 b6 b7 b8
  simp only [tx, Nat.zero_mul, Nat.one_mul, Nat.add_zero] at a4 b4
  simp only [List.length_nil] at ⊢
  go_wp2_with fail
  refine (nIs _ _ _ Hs7.out (by decide)).mono ?_
  rintro e w8 ⟨rfl, h8⟩
  rw [is_one]
  have H8 := Lib.hid (H7.out.trans h8)
  clear h8
  simp only [Option.isNone_none]
  go_wp2_with fail
  refine (lText 2 ⟨#[97]⟩ _).mono ?_
  rintro e w9 ⟨rfl, h9⟩
  go_wp2_with fail
  refine (lText 2 ⟨#[98]⟩ _).mono ?_
  rintro e w10 ⟨rfl, h10⟩
  have H10 := Lib.hid (H8.out.trans (h9.trans h10))
  clear h9 h10
  go_wp2_with fail
  have hs := many_slice (w := w10) (xs := [tx 2 ⟨#[97]⟩, tx 2 ⟨#[98]⟩]) (css := [txCells 2 ⟨#[97]⟩, txCells 2 ⟨#[98]⟩]) rfl (by
    intro j x cs hx hcs
    match j with
    | 0 => injection hx with hx; injection hcs with hcs; subst hx; subst hcs; exact tx_reads _ _ (by decide) _ (by decide)
    | 1 => injection hx with hx; injection hcs with hcs; subst hx; subst hcs; exact tx_reads _ _ (by decide) _ (by decide)
    | j + 2 => simp at hx)
  refine (nIs _ _ _ hs (by decide)).mono ?_
  rintro e w11 ⟨rfl, h11⟩
  rw [is_two]
  have H11 := Lib.hid (H10.out.trans ((Fr.new w10 _).trans h11))
  clear hs h11
  simp only [Option.isNone_some]
  go_wp2_with fail
  go_ret
  exact ⟨rfl, H11.out⟩
end Go.Proofs.Ytbhmpbaembmlnaa
