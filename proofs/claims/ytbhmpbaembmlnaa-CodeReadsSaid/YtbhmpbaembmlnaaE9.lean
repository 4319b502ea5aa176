/- code.list at steps, the closure of Reader.Steps. -/
import Derived.Test.YtbhmpbaembmlnaaE8
import Derived.Test.YtbhmpbaembmlnaaA9
set_option linter.unusedVariables false
namespace Go.Proofs.Ytbhmpbaembmlnaa
open Go.RowKit

theorem info27e : (Try.prog.info? 27).map (fun i => (i.zero, i.size, i.bytes)) = some (some (.agg #[(.int .i8 0), (.int .i64 0), (.int .i64 0), (.int .i64 0), (.string ⟨#[]⟩), (.int .i64 0), (.int .i64 0), (.string ⟨#[]⟩), (.slice none 0 0)]), elStp.size, 104) := info27

/-- Steps that were made since B0 blocks. -/
def SinceStps (B0 : Nat) (w' : World) (v : Value) (xs : List Stp) : Prop := Made elStp w' B0 27 (B0 ≤ ·) v xs

set_option maxRecDepth 100000 in
set_option maxHeartbeats 2000000 in
theorem c111 (p B : Nat) (bs : List Int) (n a : Nat) (w : World) (hn : n ≤ 1000000) (h : RdAt w p B bs a (-1)) :
    Calls Try.prog 111 #[.int .i64 n, .func (.func 113) #[.pointer (some ⟨p, 0, none⟩)] #[]] w (Reads p B bs (rdList (rdStep bs) n a) (SinceStps w.heap.size) w) := by
  have hp := h.low
  have HS := Lib.hid h
  clear h
  go_enter Try.func111, Try.ntmps111
  go_wp2_with fail
  go_loopw [4, 6] (fun v i wr => ∃ (k : Nat) (xs : List Stp) (a1 : Nat), k ≤ n ∧ i = .int .i64 k ∧ Hid (rdList (rdStep bs) k a = .ok (xs, a1)) ∧ Made elStp wr w.heap.size 27 (w.heap.size ≤ ·) v xs ∧ Hid (RTrn p w wr) ∧ Hid (RdAt wr p B bs a1 (-1)))
    (fun _ i _ => n - (intOf i).toNat)
  case atStart => exact ⟨0, [], a, Nat.zero_le _, rfl, Lib.hid rfl, Made.nil _ _ _ _ _, Lib.hid (RTrn.refl _ _), HS⟩
  case round =>
    obtain ⟨k, xs, a1, hk, rfl, Hl, hM, HT, HR⟩ := hrel
    have hxl : xs.length = k := rdList_len Hl.out
    obtain ⟨A, cap, rfl, hcap⟩ := hM.sliceN hxl
    have hMl := hM.lt
    have HM := Lib.hid hM
    have Hxl := Lib.hid hxl
    clear hM hxl
    by_cases hlt : k < n
    · go_wp2_with fail
      refine (cStep p B bs a1 wr HR.out).mono ?_
      rintro e w1 ⟨hT1, hr⟩
      have hT2 : RTrn p w w1 := HT.out.trans hT1
      cases hx : rdStep bs a1 with
      | error b =>
        rw [hx] at hr
        obtain ⟨at', rfl, h'⟩ := hr
        refine ⟨rfl, hT2, ?_⟩
        rw [rdList_err Hl.out hx n hlt]
        exact ⟨at', rfl, h'⟩
      | ok r =>
        obtain ⟨x, a2⟩ := r
        have Hl2 := Lib.hid (rdList_next Hl.out hx)
        rw [hx] at hr
        obtain ⟨v, rfl, ⟨cs, rfl, hR⟩, hR2⟩ := hr
        obtain ⟨A', cap', rfl, -⟩ := hR.open
        have hbase := HT.out.t.size
        have hM1 := HM.out.keep (w' := w1) (hT1.t.keeps.weaken fun q hq hql => by
          have hq' : w.heap.size ≤ q := by
            rcases hq with hq | hq
            · exact hq
            · exact (hMl q hq).1
          omega)
        have hR1 : elStp.R w1 (fun q => w.heap.size ≤ q ∧ (Value.slice A k cap).ownBlock ≠ some q) x (stpCells x A' cap') :=
          RStp.mono hR fun q hq _ => ⟨Nat.le_trans hbase hq, fun e => by have := hMl q e; omega⟩
        have hT3 := Lib.hid hT2
        have HR2 := Lib.hid hR2
        have hz1 := hT1.t.size
        clear hT1 hx hT2 hR hR2
        go_wp2_with (at_builtin; go_must (refine wpList_append_made elStp (W := w1) w.heap.size 29 27 _ 104 (w.heap.size ≤ ·) rfl (.tmp 8) (.tmp 11) rfl Try.underlying29 info27e rfl (.slice A k cap) xs x _ rfl rfl (by simp) hM1 hR1 ?c1 ?c2 ?c3 ?_))
        case c1 => omega
        case c2 => rw [Hxl.out]; unfold maxLen; omega
        case c3 => rw [Hxl.out]; omega
        intro v1 w2 hM2 hg2 hat2
        have hK2 : Keeps (· < w.heap.size) w1 w2 := fun q hq hql => hg2.block q hql (fun e => by have := hMl q e.symm; omega)
        have HR3 := Lib.hid (HR2.out.keepB (hK2.weaken fun q hq _ => by omega) hg2.size)
        have HT3 : Hid (RTrn p w w2) := Lib.hid ⟨hT3.out.t.own hg2 (fun q hq => (hMl q hq).1), fun u hu => hK2.cell (by omega) (hT3.out.c u hu)⟩
        have HM3 := Lib.hid (hM2.mono (T' := (w.heap.size ≤ ·)) fun q hq _ => hq.1)
        clear hM2 hg2 hat2 hK2 hM1 hR1
        go_wp2
        go_roundw
        case rel => exact ⟨k + 1, xs ++ [x], a2, by omega, by go_num, Hl2, HM3.out, HT3, HR3⟩
        case measure => simp [intOf]; omega
    · obtain rfl : k = n := by omega
      go_wp2
      go_ret
      refine ⟨HT.out, ?_⟩
      rw [Hl.out]
      exact ⟨_, rfl, HM.out, HR.out⟩

set_option maxRecDepth 100000 in
set_option maxHeartbeats 2000000 in
theorem c110 (p B : Nat) (bs : List Int) (a g : Nat) (w : World) (h : RdAt w p B bs a (-1)) (hg : w.cell? ⟨g, 0, none⟩ = some (.pointer (some ⟨p, 0, none⟩))) (hgp : g ≠ p) :
    Calls Try.prog 110 #[.pointer (some ⟨g, 0, none⟩)] w (Reads p B bs (rdSteps bs a) (SinceStps w.heap.size) w) := by
  have HR := Lib.hid h
  have HG := Lib.hid hg
  clear h
  go_enter Try.func110, Try.ntmps110
  go_wp2_with fail
  have hS : ∀ W', RTrn p w W' → W'.cell? ⟨g, 0, none⟩ = some (.pointer (some ⟨p, 0, none⟩)) := fun W' h => h.t.keeps.cell hgp HG.out
  have HSS := Lib.hid hS
  clear hS
  refine wp_region_plan [(true, 0), (true, 2), (true, 3), (false, 1), (false, 4), (true, 5)] (RTrn p w) (by kernel_rfl) (by kernel_rfl) (by kernel_rfl) (by kernel_rfl) (fun _ _ d _ _ h => by cases d <;> exact h) ((RTrn.refl _ _).drewN 1) ?_
  simp only [planOps, List.getElem?_toArray, List.getElem?_cons_zero, List.getElem?_cons_succ]
  repeat (first
    | (refine wpSeqH_skip rfl ?_; simp only [Act.put, List.setIfInBounds_toArray, List.set_cons_zero, List.set_cons_succ])
    | (refine wpSeqH_take (v := ?_) rfl (fun w' hw' => ?_) ?_; rotate_left; (have q1 := HSS.out _ hw'; go_simp; with_reducible rfl); simp only [Act.put, List.setIfInBounds_toArray, List.set_cons_zero, List.set_cons_succ]))
  refine wpSeqH_run rfl (fun K hK => ?_)
  go_wp2_with fail
  refine (cCount p B bs 57 60 a _ (HR.out.keep ((Fr.refl w).drewN 1))).mono ?_
  rintro e w1 ⟨hT, hr⟩
  have hT0 : RTrn p w w1 := ((RTrn.refl _ _).drewN 1).trans hT
  cases hn : rdCount bs 57 60 a with
  | error b =>
    rw [hn] at hr
    obtain ⟨at', rfl, h', hbl⟩ := hr
    refine ⟨rfl, hT0, ?_⟩
    rw [show rdSteps bs a = .error b by simp [rdSteps, hn]]
    exact ⟨at', rfl, h', hbl⟩
  | ok r =>
    obtain ⟨n, a1⟩ := r
    rw [hn] at hr
    obtain ⟨v, rfl, ⟨rfl, wfn⟩, h'⟩ := hr
    have ha : a1 ≤ bs.length := by obtain ⟨_, _, _, _, _, h, _⟩ := h'; exact h
    obtain ⟨n0, n1, n2⟩ := rdCount_ok hn ha
    obtain ⟨k, rfl⟩ : ∃ k : Nat, n = k := ⟨n.toNat, by omega⟩
    have hk6 : k ≤ 1000000 := by omega
    have Hn : Hid (rdSteps bs a = rdList (rdStep bs) k a1) := Lib.hid (by simp [rdSteps, hn])
    have HR1 := Lib.hid h'
    have HT0 := Lib.hid hT0
    clear hT hT0 h' hn wfn n1 n2
    go_wp2_with fail
    refine hK.out _ _ HT0.out ?_
    clear hK K
    try simp only [Act.put, List.setIfInBounds_toArray, List.set_cons_zero, List.set_cons_succ]
    refine wpSeqH_run rfl (fun K hK => ?_)
    go_wp2_with fail
    refine (c111 p B bs k a1 w1 hk6 HR1.out).mono ?_
    rintro e w2 ⟨hT, hr⟩
    have hT2 := HT0.out.trans hT
    cases hx : rdList (rdStep bs) k a1 with
    | error b =>
      rw [hx] at hr
      obtain ⟨at', rfl, h', hbl⟩ := hr
      refine ⟨rfl, hT2, ?_⟩
      rw [Hn.out, hx]
      exact ⟨at', rfl, h', hbl⟩
    | ok r =>
      obtain ⟨xs, a2⟩ := r
      rw [hx] at hr
      obtain ⟨v, rfl, hM, hR2⟩ := hr
      have Hx := Lib.hid hx
      have HT2 := Lib.hid hT2
      have hM' : Made elStp w2 w1.heap.size 27 (w1.heap.size ≤ ·) v xs := hM
      have hz := HT0.out.t.size
      have HM : Hid (Made elStp w2 w.heap.size 27 (w.heap.size ≤ ·) v xs) := Lib.hid ((hM'.rebase hz).mono fun q hq _ => Nat.le_trans hz hq)
      have HR2 := Lib.hid hR2
      obtain ⟨A, cap, rfl, -⟩ := hM'.slice
      clear hx hT hT2 hM hM' hR2
      go_wp2_with fail
      refine hK.out _ _ HT2.out ?_
      clear hK K
      try simp only [Act.put, List.setIfInBounds_toArray, List.set_cons_zero, List.set_cons_succ]
      repeat (first
        | (refine wpSeqH_skip rfl ?_; simp only [Act.put, List.setIfInBounds_toArray, List.set_cons_zero, List.set_cons_succ])
        | (refine wpSeqH_take (v := ?_) rfl (fun w' hw' => ?_) ?_; rotate_left; (have q1 := HSS.out _ hw'; go_simp; with_reducible rfl); simp only [Act.put, List.setIfInBounds_toArray, List.set_cons_zero, List.set_cons_succ]))
      refine wpSeqH_done ?_
      go_wp2
      go_ret
      refine ⟨HT2.out, ?_⟩
      rw [Hn.out, Hx.out]
      exact ⟨_, rfl, HM.out, HR2.out⟩
end Go.Proofs.Ytbhmpbaembmlnaa
