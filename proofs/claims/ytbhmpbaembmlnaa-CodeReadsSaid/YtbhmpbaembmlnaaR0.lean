/- A region that draws its order, walked in one order: what only reads is taken when its turn comes in the plan, what makes memory is carried out where nothing else may come up. -/
import Derived.Test.YtbhmpbaembmlnaaA0
import Derived.OrdersHeld
set_option linter.unusedVariables false
namespace Go.Proofs.Ytbhmpbaembmlnaa
open Go.RowKit

section
variable {P : Program} {ops : Array Oper} {Q : Exit → Act → World → Prop} {S : World → Prop}

/-- A plan: operations by their numbers; true: it only reads, and is taken first. -/
def planOK (ops : Array Oper) : List (Bool × Nat) → Array Bool → Bool
  | [], listed => (Region.ready .any ops listed).isEmpty
  | (true, i) :: r, listed => Region.free .any ops listed i && ((Region.ready .any ops listed).contains i && planOK ops r (listed.setIfInBounds i true))
  | (false, i) :: r, listed => (Region.ready .any ops listed == [i]) && planOK ops r (listed.setIfInBounds i true)

def planOps (ops : Array Oper) : List (Bool × Nat) → List (Bool × Oper)
  | [] => []
  | (b, i) :: r => match ops[i]? with
    | some o => (b, o) :: planOps ops r
    | none => planOps ops r

def wpSeqH (P : Program) (ops : Array Oper) (Q : Exit → Act → World → Prop) (S : World → Prop) : List (Bool × Oper) → Act → World → Prop
  | [], a, w => Q .normal a w
  | (true, o) :: r, a, w => ∃ v, YieldsIf P ops S o v a ∧ wpSeqH P ops Q S r (a.put o.dst v) w
  | (false, o) :: r, a, w => if Region.wanted o (yielded ops a.tmps) then o.wp P a w (fun a' w' => S w' ∧ wpSeqH P ops Q S r a' w') Q else wpSeqH P ops Q S r (a.put o.dst undef) w

theorem wpSeqH_plan (hns : Region.noSelect ops = true) (hQ : ∀ c a d v w, Q (.panic c) (Act.put a d v) w → Q (.panic c) a w) :
    ∀ (pl : List (Bool × Nat)) (listed : Array Bool) (a : Act) (w : World), planOK ops pl listed = true → S w → wpSeqH P ops Q S (planOps ops pl) a w → wpAnyH P .any ops Q S pl.length listed a w
  | [], listed, a, w, hok, hS, h => by
    refine wpAnyH_done ?_ h _
    simpa [planOK] using hok
  | (true, i) :: r, listed, a, w, hok, hS, h => by
    simp only [planOK, Bool.and_eq_true] at hok
    obtain ⟨hf, hr, hok⟩ := hok
    have hi : i ∈ Region.ready .any ops listed := by simpa using hr
    obtain ⟨_, o, ho, _⟩ := mem_ready.1 hi
    simp only [planOps, ho, wpSeqH] at h
    obtain ⟨v, hy, h⟩ := h
    exact wpAnyH_take ho hns hf hr (fun c a w => hQ c a _ v w) hy hS (wpSeqH_plan hns hQ r _ _ _ hok hS h)
  | (false, i) :: r, listed, a, w, hok, hS, h => by
    simp only [planOK, Bool.and_eq_true, beq_iff_eq] at hok
    obtain ⟨hr, hok⟩ := hok
    have hi : i ∈ Region.ready .any ops listed := by rw [hr]; simp
    obtain ⟨_, o, ho, _⟩ := mem_ready.1 hi
    simp only [planOps, ho, wpSeqH] at h
    refine wpAnyH_all hr (by simp) ?_
    intro j hj
    obtain rfl : j = i := by simpa using hj
    unfold wpOp
    simp only [ho]
    split
    · rename_i hw
      rw [if_pos hw] at h
      refine .inl ?_
      unfold Oper.wp at h ⊢
      have key : ∀ (r1 : Result Next) (K K' : Act → World → Prop), (∀ a w, K a w → K' a w) → o.upon P a K Q r1 → o.upon P a K' Q r1 := by
        intro r1 K K' hK hu
        cases r1 with
        | ok n w' =>
          cases n <;> simp only [Oper.upon] at hu ⊢
          case value u => exact hK _ _ hu
          case skip => exact hK _ _ hu
          case defer d => exact hK _ _ hu
          case enter f args =>
            refine Calls.mono hu fun e w'' he => ?_
            cases e with
            | returned u => exact hK _ _ he
            | panicked c => exact he
            | outgrown => exact he
          case row row args => exact Rows.mono hu fun u w'' he => hK _ _ he
        | halt x w' =>
          cases x <;> simp only [Oper.upon] at hu ⊢
          case panic u => exact hu
      exact key _ _ _ (fun a' w' hh => ⟨hh.1, wpSeqH_plan hns hQ r _ _ _ hok hh.1 hh.2⟩) h
    · rename_i hw
      rw [if_neg hw] at h
      exact ⟨hS, wpSeqH_plan hns hQ r _ _ _ hok hS h⟩

/-- The region, by a plan. -/
theorem wp_region_plan {id : Nat} {a : Act} {w : World} (pl : List (Bool × Nat)) (S : World → Prop) (hm : P.follows .mixedOrders = true) (hns : Region.noSelect ops = true) (hlen : (pl.length == ops.size) = true)
    (hok : planOK ops pl (Array.replicate ops.size false) = true) (hQ : ∀ c a d v w, Q (.panic c) (Act.put a d v) w → Q (.panic c) a w) (hS : S w.drew) (h : wpSeqH P ops Q S (planOps ops pl) a w.drew) : (Code.region id ops true).wp P Q a w := by
  refine wp_region_held (S := S) hm ?_
  have := wpSeqH_plan (P := P) hns hQ pl (Array.replicate ops.size false) a w.drew hok hS h
  rw [beq_iff_eq] at hlen
  rwa [hlen] at this

theorem wpSeqH_done {a : Act} {w : World} (h : Q .normal a w) : wpSeqH P ops Q S [] a w := h
theorem wpSeqH_skip {b : Bool} {o : Oper} {r : List (Bool × Oper)} {a : Act} {w : World} (hw : Region.wanted o (yielded ops a.tmps) = false) (h : wpSeqH P ops Q S r (a.put o.dst undef) w) : wpSeqH P ops Q S ((b, o) :: r) a w := by
  cases b
  · unfold wpSeqH; rw [hw]; exact h
  · exact ⟨undef, .inr ⟨hw, rfl⟩, h⟩
theorem wpSeqH_take {o : Oper} {r : List (Bool × Oper)} {a : Act} {w : World} {v : Value} (hw : Region.wanted o (yielded ops a.tmps) = true) (hy : ∀ w', S w' → (execOp a.eval o).run P w' = .ok (.value v) w') (h : wpSeqH P ops Q S r (a.put o.dst v) w) : wpSeqH P ops Q S ((true, o) :: r) a w :=
  ⟨v, .inl ⟨hw, hy⟩, h⟩
theorem wpSeqH_run {o : Oper} {r : List (Bool × Oper)} {a : Act} {w : World} (hw : Region.wanted o (yielded ops a.tmps) = true) (h : ∀ K : Act → World → Prop, Hid (∀ a w, S w → wpSeqH P ops Q S r a w → K a w) → o.wp P a w K Q) : wpSeqH P ops Q S ((false, o) :: r) a w := by
  unfold wpSeqH
  rw [if_pos hw]
  exact h _ fun a w h1 h2 => ⟨h1, h2⟩
end
end Go.Proofs.Ytbhmpbaembmlnaa
