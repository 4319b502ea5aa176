/- Copies of trees: tree.Copy, allotmentref01.Copy. -/
import Derived.Test.YtbhmpbaembmlnaaA1
set_option linter.unusedVariables false
namespace Go.Proofs.Ytbhmpbaembmlnaa
open Go.RowKit

theorem take_next {α : Type} {l : List α} {k : Nat} {x : α} (h : l[k]? = some x) : l.take (k + 1) = l.take k ++ [x] := by rw [List.take_add_one, h]; rfl

set_option maxRecDepth 100000 in
set_option maxHeartbeats 1000000 in
theorem tCopy (n : Nat) : ∀ (t : Nd) (cs : List Value) (w : World), t.ht ≤ n → RT w t cs →
    Calls Try.prog 128 #[.agg cs.toArray] w fun e w' => ∃ cs', e = .returned (.agg cs'.toArray) ∧ OwnT w' (fun k => w.heap.size ≤ k ∧ k < w'.heap.size) t cs' ∧ Fr w w' := by
  induction n with
  | zero => intro t cs w h; have := t.ht_pos; omega
  | succ n ih =>
  intro t cs w hn h
  obtain ⟨A, cap, rfl, hcap, hlen, hrow, hi, hk, ht⟩ := h.open
  have hk9 : t.kids.length ≤ 9223372036854775807 := by unfold kidsMax at hlen; omega
  go_enter Try.func128, Try.ntmps128
  go_wp2_with fail
  go_loopw [3, 9] (fun v i wr => ∃ k : Nat, k ≤ t.kids.length ∧ i = .int .i64 k ∧ Kids wr (w.heap.size + 2) v (t.kids.take k) ∧ Fr w wr ∧
      Blk wr w.heap.size [.int .i64 t.id, .int .i64 t.kind, .string t.text, .slice A t.kids.length cap] 25 ∧ Blk wr (w.heap.size + 1) [.int .i64 0, .int .i64 0, .string ⟨#[]⟩, .slice none 0 0] 25)
    (fun _ i _ => t.kids.length - (intOf i).toNat)
  case atStart => exact ⟨0, Nat.zero_le _, rfl, Kids.nil _ _, (Fr.new w _).alloc _, (Blk.new w _ _).alloc _, by simpa using Blk.new (w.alloc _) _ _⟩
  case round =>
    obtain ⟨k, hkl, rfl, hK, hb, hb0, hb1⟩ := hrel
    have hz := hb1.lt
    by_cases hlt : k < t.kids.length
    · obtain ⟨x, hx⟩ := get_some hlt
      have hxh := Nd.ht_get hx
      obtain ⟨g, off, A', cap', rfl, -, -, c0, c1, c2, c3, hxr⟩ := (hrow.keep hb.keeps hb.size).kid hx
      have Htk := Lib.hid (take_next hx)
      have hxo := fun o => hxr.later (Fr.new wr o)
      have Hh := Lib.hid (show x.ht ≤ n by omega)
      clear hx hxh hn
      go_wp2_with fail
      refine (ih x _ _ Hh.out (hxo _)).mono ?_
      rintro e w1 ⟨cs', rfl, hO, hbw⟩
      obtain ⟨B', cap2, rfl, -⟩ := hO.reads.open
      have hkl' : (t.kids.take k).length < kidsMax := by rw [List.length_take]; omega
      go_wp2_with (at_builtin; go_must (refine wpList_append_kid (wr := wr) rfl (.tmp 13) (.tmp 16) rfl (w.heap.size + 2) _ u3 (t.kids.take k) x _ rfl rfl (by simp) hK ((Fr.new wr _).trans hbw) hz ?c1 hO hkl' ?_))
      case c1 => simp
      intro v1 w2 HK2 hg2 hat2
      have hfr : Fr w w2 := (hb.trans ((Fr.new wr _).trans hbw)).own hg2 (fun k hk => by have := hK.lt k hk; omega)
      have b0 := (hb0.later ((Fr.new wr _).trans hbw)).grown hg2 (fun e => by have := hK.lt _ e; omega)
      have b1 := (hb1.later ((Fr.new wr _).trans hbw)).grown hg2 (fun e => by have := hK.lt _ e; omega)
      rw [← Htk.out] at HK2
      go_wp2
      go_roundw
      case rel => exact ⟨k + 1, by omega, by go_num, HK2, hfr, b0, b1⟩
      case measure => simp [intOf]; omega
    · obtain rfl : k = t.kids.length := by omega
      rw [List.take_length] at hK
      have hO := hK.node hi hk ht hlen
      obtain ⟨A', cap', rfl, hcap'⟩ := hK.slice
      obtain ⟨f0, f1⟩ := hb0.rules
      obtain ⟨f2, f3⟩ := hb1.rules
      go_wp2
      refine bodyPost_ret (v := .agg #[.int .i64 t.id, .int .i64 t.kind, .string t.text, .slice A' t.kids.length cap']) (by simp [results, Try.results128, go_sem, f2]) rfl ⟨_, rfl, ?_, ?_⟩
      · refine OwnT.mono (OwnT.keep hO (((((Keeps.refl _ wr).set ?_ _ _).set ?_ _ _).set ?_ _ _).set ?_ _ _ |>.set ?_ _ _)) (fun k hk => by simp only [size_set]; omega) <;> omega
      · exact ((((hb.set (Nat.le_refl _) _ _).set (Nat.le_succ _) _ _).set (Nat.le_succ _) _ _).set (Nat.le_succ _) _ _).set (Nat.le_succ _) _ _

set_option maxRecDepth 100000 in
set_option maxHeartbeats 1000000 in
theorem rCopy (n : Nat) : ∀ (t : Nd) (cs : List Value) (w : World), t.ht ≤ n → RT w t cs →
    Calls Try.prog 159 #[.agg cs.toArray] w fun e w' => ∃ cs', e = .returned (.agg cs'.toArray) ∧ OwnT w' (fun k => w.heap.size ≤ k ∧ k < w'.heap.size) t cs' ∧ Fr w w' := by
  induction n with
  | zero => intro t cs w h; have := t.ht_pos; omega
  | succ n ih =>
  intro t cs w hn h
  obtain ⟨A, cap, rfl, hcap, hlen, hrow, hi, hk, ht⟩ := h.open
  have hk9 : t.kids.length ≤ 9223372036854775807 := by unfold kidsMax at hlen; omega
  go_enter Try.func159, Try.ntmps159
  go_wp2_with fail
  go_loopw [4] (fun i wr => ∃ (k : Nat) (v : Value), k ≤ t.kids.length ∧ i = .int .i64 k ∧ Kids wr (w.heap.size + 3) v (t.kids.take k) ∧ Fr w wr ∧
      Blk wr w.heap.size [.int .i64 t.id, .int .i64 t.kind, .string t.text, .slice A t.kids.length cap] 25 ∧ Blk wr (w.heap.size + 1) [.int .i64 0, .int .i64 0, .string ⟨#[]⟩, .slice none 0 0] 25 ∧ Blk wr (w.heap.size + 1 + 1) [.int .i64 t.id, .int .i64 t.kind, .string t.text, v] 25)
    (fun i _ => t.kids.length - (intOf i).toNat)
  case atStart =>
    exact ⟨0, _, Nat.zero_le _, rfl, Kids.nil _ _, ((Fr.new w _).alloc _).alloc _, ((Blk.new w _ _).alloc _).alloc _, (by simpa using (Blk.new (w.alloc _) _ _).alloc _), (by simpa using Blk.new ((w.alloc _).alloc _) _ _)⟩
  case round =>
    obtain ⟨k, v, hkl, rfl, hK, hb, hb0, hb1, hb2⟩ := hrel
    have hz := hb2.lt
    by_cases hlt : k < t.kids.length
    · obtain ⟨x, hx⟩ := get_some hlt
      have hxh := Nd.ht_get hx
      obtain ⟨g, off, A', cap', rfl, -, -, c0, c1, c2, c3, hxr⟩ := (hrow.keep hb.keeps hb.size).kid hx
      have Htk := Lib.hid (take_next hx)
      have Hh := Lib.hid (show x.ht ≤ n by omega)
      obtain ⟨f0, f1⟩ := hb0.rules
      clear hx hxh hn
      go_wp2_with fail
      refine (ih x _ _ Hh.out hxr).mono ?_
      rintro e w1 ⟨cs', rfl, hO, hbw⟩
      obtain ⟨B', cap2, rfl, -⟩ := hO.reads.open
      have hkl' : (t.kids.take k).length < kidsMax := by rw [List.length_take]; omega
      have b2 := hb2.later hbw
      obtain ⟨f2, f3⟩ := b2.rules
      have hz1 := b2.lt
      obtain ⟨C, cap3, rfl, -⟩ := hK.sliceN (n := k) (by rw [List.length_take]; omega)
      go_wp2_with (at_builtin; go_must (refine wpList_append_kid (wr := wr) rfl (.tmp 27) (.tmp 29) rfl (w.heap.size + 3) wr.heap.size (.slice C k cap3) (t.kids.take k) x _ rfl rfl (by simp) hK (hbw.alloc _) hz ?c1 ?c2 hkl' ?_))
      case c1 => exact Nat.le_refl _
      case c2 => exact OwnT.mono (OwnT.keep hO (Fr.new w1 _).keeps.all) (fun k hk => by simp; omega)
      intro v1 w2 HK2 hg2 hat2
      have hKl := hK.lt
      have hfr : Fr w w2 := (hb.trans (hbw.alloc _)).own hg2 (fun k hk => by have := hKl k hk; omega)
      have b0' := (hb0.later (hbw.alloc _)).grown hg2 (fun e => by have := hKl _ e; omega)
      have b1' := (hb1.later (hbw.alloc _)).grown hg2 (fun e => by have := hKl _ e; omega)
      have b2' := (b2.alloc _).grown hg2 (fun e => by have := hKl _ e; omega)
      rw [← Htk.out] at HK2
      obtain ⟨D, cap4, rfl, -⟩ := HK2.sliceN (n := k + 1) (by rw [List.length_take]; omega)
      clear f0 f1 f2 f3 hg2 hat2
      obtain ⟨f2, f3⟩ := b2'.rules
      have hz2 := b2'.lt
      go_wp2
      go_roundw
      case rel =>
        refine ⟨k + 1, .slice D (k + 1) cap4, by omega, by go_num, HK2.keep ((Keeps.refl _ _).set ?_ _ _) ?_, hfr.set ?_ _ _, b0'.far ?_ _ _, b1'.far ?_ _ _, b2'.set _ _⟩ <;> (try simp only [size_set]) <;> omega
      case measure => simp [intOf]; omega
    · obtain rfl : k = t.kids.length := by omega
      rw [List.take_length] at hK
      have hO := hK.node hi hk ht hlen
      obtain ⟨A', cap', rfl, hcap'⟩ := hK.slice
      obtain ⟨f0, f1⟩ := hb0.rules
      obtain ⟨f2, f3⟩ := hb1.rules
      obtain ⟨f4, f5⟩ := hb2.rules
      go_wp2
      refine bodyPost_ret (v := .agg #[.int .i64 t.id, .int .i64 t.kind, .string t.text, .slice A' t.kids.length cap']) (by simp [results, Try.results159, go_sem, f2]) rfl ⟨_, rfl, ?_, ?_⟩
      · refine OwnT.mono (OwnT.keep hO (((((Keeps.refl _ wr).set ?_ _ _).set ?_ _ _).set ?_ _ _).set ?_ _ _)) (fun k hk => by simp only [size_set]; omega) <;> omega
      · refine (((hb.set ?_ _ _).set ?_ _ _).set ?_ _ _).set ?_ _ _ <;> omega
end Go.Proofs.Ytbhmpbaembmlnaa
