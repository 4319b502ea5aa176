/- The row of NormalAgain. -/
import Derived.Test.YtbhmpbaembmlnaaRow0
import Derived.Test.YtbhmpbaembmlnaaC4
import Derived.Test.YtbhmpbaembmlnaaD1
set_option linter.unusedVariables false
namespace Go.Proofs.Ytbhmpbaembmlnaa
open Go.ChangeShapes Go.WideShapes Go.ChangeAt Go.WideMaps Go.WideElems Go.RowKit

theorem read29' : Try.prog.readableRec 29 = true := by kernel_rfl
theorem in29 : 29 < Try.prog.types.size := of_decide_eq_true (by kernel_rfl)

set_option maxRecDepth 100000 in
theorem again_lifted (os : Os) (started : os.Started) (H : Type) (enc : TypeId × Value → H) :
    ReturnsInHanded {} Try.checked os 4 .any (Rows.normalAgainSpec.pre6 enc Try.prog Try.f4 [] false)
      (Rows.normalAgainSpec.post enc Try.prog Try.f4 false true false false) := by
  refine returnsInHanded_of_change_sized (C := Try.checked) own started (by kernel_rfl) Try.func4
    (ChangeSpec.witness6 (enc := enc) (C := Try.checked) false ⟨#[], #[.slice none 0 0], []⟩ 8 (by kernel_rfl) (by kernel_rfl) (by kernel_rfl) (by kernel_rfl)) ?_
  intro W base args ds gs before hval0 hW _ hsz _
  have hval : ∀ (j : Nat) t v, Try.f4.params[j]? = some t → args[j]? = some v → Value.okWide Try.prog W .any base t v := hval0
  have hW' := hW
  obtain ⟨p, q, hA0, hV, rfl, hfz, hnd⟩ := hW
  have hA : DataW.TrodAll enc Try.prog W 0 (fun _ => true) true Try.f4.params.toList args.toList ds p := hA0
  rw [Try.params4] at hA hval
  obtain ⟨v1, d1, rfl, rfl, h1⟩ := trodAll_one hA
  obtain ⟨rfl, rfl⟩ := trodVars_none hV
  have hs1 : ∀ k ∈ d1.weights Try.prog 29, k ≤ reachBytes := fun k hk => by
    have := DataW.weights_mem_each (P := Try.prog) (ts := [29]) (ds := [d1]) (j := 0) rfl rfl k hk
    exact of_decide_eq_true (List.all_eq_true.1 hsz k this)
  obtain ⟨n1, t1⟩ := h1
  obtain ⟨l, v, hcs, ha, hlen⟩ := steps_of_trod t1 hs1
  obtain ⟨A1, n1', c1', rfl⟩ := okWide_slice Try.underlying29 (hval 0 29 v1 rfl rfl)
  have e1 : Value.slice A1 n1' c1' = v := by
    simpa [Value.cells] using hcs
  subst e1
  refine (lawAgain l _ W ha (by unfold reachBytes at hlen; omega)).mono ?_
  rintro e W' ⟨rfl, hF⟩
  refine ⟨_, rfl, post_true hW' hF rfl rfl rfl rfl ?_⟩
  intro sp hsp
  have hlt : ∀ q ∈ p ++ [], q.block < W.heap.size := fun q hq => by simpa using hW'.lt q hq
  rw [List.append_nil]
  exact trodAll_mk1 (Trod_stays laidOut read29' in29 ⟨n1, t1⟩ (fun p hp => hF.same (hlt p (by simp [hp]))) (fun p hp => hsp p (by simp [hp])))

set_option maxRecDepth 100000 in
theorem normalAgain_holds : Rows.NormalAgainSaid :=
  OpenClaim.holds_of_wide 4 Try.f4 rfl rfl rfl rfl rfl rfl rfl ⟨rfl, rfl, rfl, rfl, rfl⟩ rfl rfl rfl rfl rfl (by kernel_rfl) Try.func4 (by kernel_rfl)
    (of_decide_eq_true (by kernel_rfl)) (by unfold Func.isWrapper; first | (rw [if_pos (by decide +kernel)]; kernel_rfl) | (rw [if_neg (by decide +kernel)]; exact ⟨rfl, rfl⟩))
    (fun os started H enc _ => again_lifted os started H enc)
end Go.Proofs.Ytbhmpbaembmlnaa
