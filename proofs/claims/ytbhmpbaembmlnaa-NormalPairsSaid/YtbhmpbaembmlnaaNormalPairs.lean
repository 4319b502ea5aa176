/- The row of NormalPairs. -/
import Derived.Test.YtbhmpbaembmlnaaRows
import Derived.Test.YtbhmpbaembmlnaaC4
import Derived.ProofKit
import Derived.OpenShut
import Derived.Carry
set_option linter.unusedVariables false
namespace Go.Proofs.Ytbhmpbaembmlnaa
open Go.ChangeShapes Go.WideShapes Go.ChangeAt Go.WideMaps Go.WideElems Go.RowKit

theorem own : ownKnob Try.prog.godebug = none := by kernel_rfl
theorem laidOut : laidOutB Try.prog = true := by kernel_rfl

set_option maxRecDepth 100000 in
/-- 'True; the input reads as it did', where nothing that lay has turned. -/
theorem post_true {H : Type} {enc : TypeId × Value → H} {f : Func} {s : ChangeSpec} {apart fresh handsOn again : Bool} {W W' : World} {args : Array Value} {ds gs : List (DataW H)} {before : List MemPlace}
    (hW : DataW.Whole enc Try.prog f.params.toList s.vars apart W args.toList ds gs before) (hF : Below W.heap.size W W') (hgs : gs = []) (hvs : s.vars = []) (hres : f.resultTypes = #[4])
    (hfn : s.fn H (ds ++ gs) = { results := [.lit (.bool true)], args := ds })
    (hargs : ∀ sp : Nat → Bool, (∀ p ∈ before, sp p.block = true) → DataW.TrodAll enc Try.prog W' 0 sp true f.params.toList args.toList ds before) :
    s.post enc Try.prog f apart fresh handsOn again W args (.bool true) W' := by
  have hlt : ∀ p ∈ before, p.block < W.heap.size := fun p hp => by simpa using hW.lt p hp
  have hold : ∀ p ∈ before, (fun b => decide (b < W.heap.size)) p.block = true := fun p hp => by simpa using hlt p hp
  have hr : ∀ (b : Nat) (sp : Nat → Bool) (hd : Bool), DataW.TrodAll enc Try.prog W' b sp hd f.resultTypes.toList ((Value.bool true).resultList f.resultTypes.size) [.lit (.bool true)] [] := fun b sp hd => by
    rw [hres]
    exact trodAll_mk1 (shut_bool Try.underlying4 _)
  refine ⟨ds, gs, before, [], before, [], hW, ?_, ?_, ?_, hF.frame _, fun _ => ?_⟩
  · rw [hfn]; exact hr _ _ _
  · rw [hfn]; exact hargs _ hold
  · subst hgs; rw [hfn, hvs]; exact rfl
  · obtain ⟨p, q, hA, hV, hb, hz, hn⟩ := hW
    refine ⟨?_, _, [], ([] ++ before) ++ [], ⟨[] ++ before, [], trodAll_append (hargs _ (fun _ _ => rfl)) (hr _ _ _), by rw [hvs]; exact rfl, rfl, ?_, ?_⟩, ?_⟩
    · exact ok_one hres rfl (okWide_bool_mk Try.underlying4 _)
    · intro b off hp
      have hp' : MemPlace.cell b off ∈ before := by simpa using hp
      rw [hF.frozen (p := ⟨b, off, none⟩) (hlt _ hp')]
      exact hz b off (by simpa using hp')
    · intro ha
      simpa using hn ha
    · intro p hp _
      simpa using hp

theorem read27 : Try.prog.readableRec 27 = true := by kernel_rfl
theorem read29 : Try.prog.readableRec 29 = true := by kernel_rfl

theorem agg_of_nine {v : Value} (h : v.cells.toList.length = 9) : v = .agg v.cells.toList.toArray := by
  cases v <;> simp [Value.cells] at h ⊢
theorem in27 : 27 < Try.prog.types.size := of_decide_eq_true (by kernel_rfl)

set_option maxRecDepth 100000 in
theorem pairs_lifted (os : Os) (started : os.Started) (H : Type) (enc : TypeId × Value → H) :
    ReturnsInHanded {} Try.checked os 3 .any (Rows.normalPairsSpec.pre6 enc Try.prog Try.f3 [] false)
      (Rows.normalPairsSpec.post enc Try.prog Try.f3 false true false false) := by
  refine returnsInHanded_of_change_sized (C := Try.checked) own started (by kernel_rfl) Try.func3
    (ChangeSpec.witness6 (enc := enc) (C := Try.checked) false ⟨#[], #[.agg #[.int .i8 0, .int .i64 0, .int .i64 0, .int .i64 0, .string ⟨#[]⟩, .int .i64 0, .int .i64 0, .string ⟨#[]⟩, .slice none 0 0], .agg #[.int .i8 0, .int .i64 0, .int .i64 0, .int .i64 0, .string ⟨#[]⟩, .int .i64 0, .int .i64 0, .string ⟨#[]⟩, .slice none 0 0]], []⟩ 8 (by kernel_rfl) (by kernel_rfl) (by kernel_rfl) (by kernel_rfl)) ?_
  intro W base args ds gs before hval0 hW _ hsz _
  have hval : ∀ (j : Nat) t v, Try.f3.params[j]? = some t → args[j]? = some v → Value.okWide Try.prog W .any base t v := hval0
  have hW' := hW
  obtain ⟨p, q, hA0, hV, rfl, hfz, hnd⟩ := hW
  have hA : DataW.TrodAll enc Try.prog W 0 (fun _ => true) true Try.f3.params.toList args.toList ds p := hA0
  rw [Try.params3] at hA hval
  obtain ⟨v1, v2, d1, d2, p1, p2, rfl, rfl, rfl, h1, h2⟩ := trodAll_two hA
  obtain ⟨rfl, rfl⟩ := trodVars_none hV
  have hs1 : ∀ k ∈ d1.weights Try.prog 27, k ≤ reachBytes := fun k hk => by
    have := DataW.weights_mem_each (P := Try.prog) (ts := [27, 27]) (ds := [d1, d2]) (j := 0) rfl rfl k hk
    exact of_decide_eq_true (List.all_eq_true.1 hsz k this)
  have hs2 : ∀ k ∈ d2.weights Try.prog 27, k ≤ reachBytes := fun k hk => by
    have := DataW.weights_mem_each (P := Try.prog) (ts := [27, 27]) (ds := [d1, d2]) (j := 1) rfl rfl k hk
    exact of_decide_eq_true (List.all_eq_true.1 hsz k this)
  obtain ⟨n1, t1⟩ := h1
  obtain ⟨n2, t2⟩ := h2
  obtain ⟨a, ha⟩ := step_of_trod t1 hs1
  obtain ⟨b, hb⟩ := step_of_trod t2 hs2
  have e1 := agg_of_nine (v := v1) (elStp.len ha)
  have e2 := agg_of_nine (v := v2) (elStp.len hb)
  rw [e1, e2] at hW' ⊢
  refine (lawPairs a b _ _ W ha hb).mono ?_
  rintro e W' ⟨rfl, hF⟩
  refine ⟨_, rfl, post_true hW' hF rfl rfl rfl rfl ?_⟩
  intro sp hsp
  have hlt : ∀ p ∈ p1 ++ p2 ++ [], p.block < W.heap.size := fun p hp => by simpa using hW'.lt p hp
  rw [← e1, ← e2, List.append_nil]
  exact trodAll_mk2 (Trod_stays laidOut read27 in27 ⟨n1, t1⟩ (fun p hp => hF.same (hlt p (by simp [hp]))) (fun p hp => hsp p (by simp [hp]))) (Trod_stays laidOut read27 in27 ⟨n2, t2⟩ (fun p hp => hF.same (hlt p (by simp [hp]))) (fun p hp => hsp p (by simp [hp])))

set_option maxRecDepth 100000 in
theorem normalPairs_holds : Rows.NormalPairsSaid :=
  OpenClaim.holds_of_wide 3 Try.f3 rfl rfl rfl rfl rfl rfl rfl ⟨rfl, rfl, rfl, rfl, rfl⟩ rfl rfl rfl rfl rfl (by kernel_rfl) Try.func3 (by kernel_rfl)
    (of_decide_eq_true (by kernel_rfl)) (by unfold Func.isWrapper; first | (rw [if_pos (by decide +kernel)]; kernel_rfl) | (rw [if_neg (by decide +kernel)]; exact ⟨rfl, rfl⟩))
    (fun os started H enc _ => pairs_lifted os started H enc)
end Go.Proofs.Ytbhmpbaembmlnaa
