/- The row of CodeReads. -/
import Derived.Test.YtbhmpbaembmlnaaRow0
import Derived.Test.YtbhmpbaembmlnaaC5
import Derived.Test.YtbhmpbaembmlnaaG2
set_option linter.unusedVariables false
namespace Go.Proofs.Ytbhmpbaembmlnaa
open Go.ChangeShapes Go.WideShapes Go.ChangeAt Go.WideMaps Go.WideElems Go.RowKit

theorem read36 : Try.prog.readableRec 36 = true := by kernel_rfl
theorem read37 : Try.prog.readableRec 37 = true := by kernel_rfl
theorem in36 : 36 < Try.prog.types.size := of_decide_eq_true (by kernel_rfl)
theorem in37 : 37 < Try.prog.types.size := of_decide_eq_true (by kernel_rfl)
theorem c5 : Try.prog.cellsOf 5 = 1 := by kernel_rfl
theorem by5 : Try.prog.bytesOf 5 = 1 := by kernel_rfl
theorem by3 : Try.prog.bytesOf 3 = 8 := by kernel_rfl

set_option maxRecDepth 100000 in
theorem reads_lifted (os : Os) (started : os.Started) (H : Type) (enc : TypeId × Value → H) :
    ReturnsInHanded {} Try.checked os 5 .any (Rows.codeReadsSpec.pre6 enc Try.prog Try.f5 [] false)
      (Rows.codeReadsSpec.post enc Try.prog Try.f5 false true false false) := by
  refine returnsInHanded_of_change_sized (C := Try.checked) own started (by kernel_rfl) Try.func5
    (ChangeSpec.witness6 (enc := enc) (C := Try.checked) false ⟨#[], #[.slice none 0 0, .slice none 0 0, .int .i64 0, .int .i64 0], []⟩ 8 (by kernel_rfl) (by kernel_rfl) (by kernel_rfl) (by kernel_rfl)) ?_
  intro W base args ds gs before hval0 hW _ hsz _
  have hval : ∀ (j : Nat) t v, Try.f5.params[j]? = some t → args[j]? = some v → Value.okWide Try.prog W .any base t v := hval0
  have hW' := hW
  obtain ⟨p, q, hA0, hV, rfl, hfz, hnd⟩ := hW
  have hA : DataW.TrodAll enc Try.prog W 0 (fun _ => true) true Try.f5.params.toList args.toList ds p := hA0
  rw [Try.params5] at hA hval
  obtain ⟨v1, v2, v3, v4, d1, d2, d3, d4, p1, p2, p3, p4, rfl, rfl, rfl, h1, h2, h3, h4⟩ := trodAll_four hA
  obtain ⟨rfl, rfl⟩ := trodVars_none hV
  have hs1 : ∀ k ∈ d1.weights Try.prog 36, k ≤ reachBytes := fun k hk => by
    have := DataW.weights_mem_each (P := Try.prog) (ts := [36, 37, 3, 3]) (ds := [d1, d2, d3, d4]) (j := 0) rfl rfl k hk
    exact of_decide_eq_true (List.all_eq_true.1 hsz k this)
  have hs2 : ∀ k ∈ d2.weights Try.prog 37, k ≤ reachBytes := fun k hk => by
    have := DataW.weights_mem_each (P := Try.prog) (ts := [36, 37, 3, 3]) (ds := [d1, d2, d3, d4]) (j := 1) rfl rfl k hk
    exact of_decide_eq_true (List.all_eq_true.1 hsz k this)
  obtain ⟨n1, t1⟩ := h1
  obtain ⟨n2, t2⟩ := h2
  obtain ⟨bs, u1, hu1, hb, hbl⟩ := nums_of_trod Try.underlying36 Try.underlying5 c5 by5 (Nat.le_refl _) t1 hs1
  obtain ⟨ts, u2, hu2, ht, htl⟩ := nums_of_trod Try.underlying37 Try.underlying3 c3 by3 (by decide) t2 hs2
  obtain ⟨A1, l1, k1, rfl⟩ := okWide_slice Try.underlying36 (hval 0 36 v1 rfl rfl)
  obtain ⟨A2, l2, k2, rfl⟩ := okWide_slice Try.underlying37 (hval 1 37 v2 rfl rfl)
  obtain ⟨size, rfl, rfl, rfl, ws⟩ := open_int Try.underlying3 (hval 2 3 v3 rfl rfl) h3
  obtain ⟨most, rfl, rfl, rfl, wm⟩ := open_int Try.underlying3 (hval 3 3 v4 rfl rfl) h4
  obtain rfl : Value.slice A1 l1 k1 = u1 := by simpa [Value.cells] using hu1
  obtain rfl : Value.slice A2 l2 k2 = u2 := by simpa [Value.cells] using hu2
  refine (lawReads bs ts size most _ _ W hb ht (by unfold reachBytes at hbl; omega) (by unfold reachBytes at htl; omega)).mono ?_
  rintro e W' ⟨rfl, hF⟩
  refine ⟨_, rfl, post_true hW' hF rfl rfl rfl rfl ?_⟩
  intro sp hsp
  have hlt : ∀ x ∈ p1 ++ p2 ++ [] ++ [] ++ [], x.block < W.heap.size := fun x hx => by simpa using hW'.lt x hx
  have e : p1 ++ p2 ++ [] ++ [] ++ [] = p1 ++ (p2 ++ ([] ++ [])) := by simp
  rw [e] at *
  exact trodAll_mk4 (Trod_stays laidOut read36 in36 ⟨n1, t1⟩ (fun x hx => hF.same (hlt x (by simp [hx]))) (fun x hx => hsp x (by simp [hx])))
    (Trod_stays laidOut read37 in37 ⟨n2, t2⟩ (fun x hx => hF.same (hlt x (by simp [hx]))) (fun x hx => hsp x (by simp [hx])))
    (shut_int Try.underlying3 ws) (shut_int Try.underlying3 wm)

set_option maxRecDepth 100000 in
theorem codeReads_holds : Rows.CodeReadsSaid :=
  OpenClaim.holds_of_wide 5 Try.f5 rfl rfl rfl rfl rfl rfl rfl ⟨rfl, rfl, rfl, rfl, rfl⟩ rfl rfl rfl rfl rfl (by kernel_rfl) Try.func5 (by kernel_rfl)
    (of_decide_eq_true (by kernel_rfl)) (by unfold Func.isWrapper; first | (rw [if_pos (by decide +kernel)]; kernel_rfl) | (rw [if_neg (by decide +kernel)]; exact ⟨rfl, rfl⟩))
    (fun os started H enc _ => reads_lifted os started H enc)
end Go.Proofs.Ytbhmpbaembmlnaa
