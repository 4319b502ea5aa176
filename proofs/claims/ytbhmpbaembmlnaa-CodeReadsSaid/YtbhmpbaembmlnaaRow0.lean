/- Words of the rows: the call hands back true, and nothing that lay has turned. -/
import Derived.Test.YtbhmpbaembmlnaaRows
import Derived.Test.YtbhmpbaembmlnaaA0
import Derived.ProofKit
import Derived.OpenShut
import Derived.Carry
set_option linter.unusedVariables false
namespace Go.Proofs.Ytbhmpbaembmlnaa
open Go.ChangeShapes Go.WideShapes Go.ChangeAt Go.WideMaps Go.WideElems Go.RowKit

theorem own : ownKnob Try.prog.godebug = none := by kernel_rfl
theorem laidOut : laidOutB Try.prog = true := by kernel_rfl

set_option maxRecDepth 100000 in
/-- 'True; the input reads as it did', where nothing that lay has turned. -/
theorem post_true {H : Type} {enc : TypeId × Value → H} {f : Func} {s : ChangeSpec} {apart fresh handsOn again : Bool} {W W' : World} {args : Array Value} {ds gs : List (DataW H)} {before : List MemPlace}
    (hW : DataW.Whole enc Try.prog f.params.toList s.vars apart W args.toList ds gs before) (hF : Below W.heap.size W W') (hgs : gs = []) (hvs : s.vars = []) (hres : f.resultTypes = #[4])
    (hfn : s.fn H (ds ++ gs) = { results := [.lit (.bool true)], args := ds })
    (hargs : ∀ sp : Nat → Bool, (∀ p ∈ before, sp p.block = true) → DataW.TrodAll enc Try.prog W' 0 sp true f.params.toList args.toList ds before) :
    s.post enc Try.prog f apart fresh handsOn again W args (.bool true) W' := by
  have hlt : ∀ p ∈ before, p.block < W.heap.size := fun p hp => by simpa using hW.lt p hp
  have hold : ∀ p ∈ before, (fun b => decide (b < W.heap.size)) p.block = true := fun p hp => by simpa using hlt p hp
  have hr : ∀ (b : Nat) (sp : Nat → Bool) (hd : Bool), DataW.TrodAll enc Try.prog W' b sp hd f.resultTypes.toList ((Value.bool true).resultList f.resultTypes.size) [.lit (.bool true)] [] := fun b sp hd => by
    rw [hres]
    exact trodAll_mk1 (shut_bool Try.underlying4 _)
  refine ⟨ds, gs, before, [], before, [], hW, ?_, ?_, ?_, hF.frame _, fun _ => ?_⟩
  · rw [hfn]; exact hr _ _ _
  · rw [hfn]; exact hargs _ hold
  · subst hgs; rw [hfn, hvs]; exact rfl
  · obtain ⟨p, q, hA, hV, hb, hz, hn⟩ := hW
    refine ⟨?_, _, [], ([] ++ before) ++ [], ⟨[] ++ before, [], trodAll_append (hargs _ (fun _ _ => rfl)) (hr _ _ _), by rw [hvs]; exact rfl, rfl, ?_, ?_⟩, ?_⟩
    · exact ok_one hres rfl (okWide_bool_mk Try.underlying4 _)
    · intro b off hp
      have hp' : MemPlace.cell b off ∈ before := by simpa using hp
      rw [hF.frozen (p := ⟨b, off, none⟩) (hlt _ hp')]
      exact hz b off (by simpa using hp')
    · intro ha
      simpa using hn ha
    · intro p hp _
      simpa using hp
end Go.Proofs.Ytbhmpbaembmlnaa
