/- The walk over a tree: allotmentref01.walk, Walk. -/
import Derived.Test.YtbhmpbaembmlnaaA1
set_option linter.unusedVariables false
namespace Go.Proofs.Ytbhmpbaembmlnaa
open Go.RowKit

/-! A row that a callee may put things behind. -/

/-- w' is w, but for new blocks and the row of v, which v' carries on. -/
def Grew (w w' : World) (v v' : Value) : Prop := w.grownBy w' v.ownBlock ∧ (v'.ownBlock = v.ownBlock ∨ ∃ b, v'.ownBlock = some b ∧ w.heap.size ≤ b)

theorem Grew.refl (w : World) (v : Value) : Grew w w v v := ⟨World.grownBy.refl w _, .inl rfl⟩
theorem Grew.size {w w' : World} {v v' : Value} (h : Grew w w' v v') : w.heap.size ≤ w'.heap.size := h.1.size
theorem Grew.trans {a b c : World} {u v t : Value} (h : Grew a b u v) (k : Grew b c v t) : Grew a c u t := by
  refine ⟨⟨k.1.os.trans h.1.os, k.1.tape.trans h.1.tape, k.1.output.trans h.1.output, Nat.le_trans h.size k.size, fun i hi hne => ?_⟩, ?_⟩
  · rw [k.1.block i (Nat.lt_of_lt_of_le hi h.size) ?_, h.1.block i hi hne]
    rcases h.2 with e | ⟨b, e, hb⟩
    · rw [e]; exact hne
    · rw [e]; intro e; injection e with e; omega
  · rcases k.2 with e | ⟨b, e, hb⟩
    · rw [e]; exact h.2
    · exact .inr ⟨b, e, Nat.le_trans h.size hb⟩
theorem Grew.before {a b c : World} {u v : Value} (h : Fr a b) (k : Grew b c u v) : Grew a c u v := by
  refine ⟨⟨k.1.os.trans h.os, k.1.tape.trans h.tape, k.1.output.trans h.output, Nat.le_trans h.size k.size, fun i hi hne => ?_⟩, ?_⟩
  · rw [k.1.block i (Nat.lt_of_lt_of_le hi h.size) hne, h.block i hi]
  · rcases k.2 with e | ⟨b, e, hb⟩
    · exact .inl e
    · exact .inr ⟨b, e, Nat.le_trans h.size hb⟩
theorem Grew.after {a b c : World} {u v : Value} (h : Grew a b u v) (k : Fr b c) : Grew a c u v :=
  ⟨⟨k.os.trans h.1.os, k.tape.trans h.1.tape, k.output.trans h.1.output, Nat.le_trans h.size k.size, fun i hi hne => (k.block i (Nat.lt_of_lt_of_le hi h.size)).trans (h.1.block i hi hne)⟩, h.2⟩
theorem Grew.blk {w w' : World} {v v' : Value} (h : Grew w w' v v') {g : Nat} {cs : List Value} {e : TypeId} (hb : Blk w g cs e) (hg : v.ownBlock ≠ some g) : Blk w' g cs e ∧ v'.ownBlock ≠ some g := by
  refine ⟨hb.grown h.1 hg, ?_⟩
  rcases h.2 with e | ⟨b, e, hb'⟩
  · rw [e]; exact hg
  · rw [e]; intro e; injection e with e; have := hb.lt; omega
theorem Grew.below {w w' : World} {v v' : Value} (h : Grew w w' v v') {B : Nat} (hB : B ≤ w.heap.size) (hv : ∀ k, v.ownBlock = some k → B ≤ k) : Below B w w' :=
  (Below.refl B w).grown h.1 hB hv

theorem Grew.of_append {W w1 : World} {v v1 : Value} {n : Nat} (hg : W.grownBy w1 v.ownBlock) (hat : v1.ownBlock = v.ownBlock ∨ v1.ownBlock = some n) (hn : W.heap.size ≤ n) : Grew W w1 v v1 := by
  refine ⟨hg, ?_⟩
  rcases hat with e | e
  · exact .inl e
  · exact .inr ⟨_, e, hn⟩

theorem info86 : (Try.prog.info? 86).map (fun i => (i.zero, i.size, i.bytes)) = some (some (.agg #[(.int .i64 0), (.int .i64 0), (.string ⟨#[]⟩), (.slice none 0 0), (.int .i64 0)]), 5, 64) := by kernel_rfl

mutual
def Nd.pre : Nd → Int → List Spt
  | ⟨i, k, s, l⟩, d => ⟨⟨i, k, s, l⟩, d⟩ :: preL l (d + 1)
def preL : List Nd → Int → List Spt
  | [], _ => []
  | x :: l, d => x.pre d ++ preL l d
end

theorem Nd.pre_eq (t : Nd) (d : Int) : t.pre d = ⟨t, d⟩ :: preL t.kids (d + 1) := by cases t; rw [Nd.pre]
theorem preL_append (xs ys : List Nd) (d : Int) : preL (xs ++ ys) d = preL xs d ++ preL ys d := by
  induction xs with
  | nil => rw [preL]; rfl
  | cons x xs ih => rw [List.cons_append, preL, preL, ih, List.append_assoc]
theorem preL_one (x : Nd) (d : Int) : preL [x] d = x.pre d := by rw [preL, preL, List.append_nil]

theorem walk_more {α : Type} (l a b : List α) (M : Nat) : (l ++ a.take (M - l.length)) ++ b.take (M - (l ++ a.take (M - l.length)).length) = l ++ (a ++ b).take (M - l.length) := by
  rw [List.append_assoc, List.take_append, List.length_append, List.length_take]
  congr 3
  omega

def Walked (w : World) (v : Value) (B M : Nat) (xs : List Spt) (t : Nd) (d : Int) (e : Ending) (w' : World) : Prop :=
  ∃ v', e = .returned v' ∧ Made elSpt w' B 86 (· < B) v' (xs ++ (t.pre d).take (M - xs.length)) ∧ Grew w w' v v'

set_option maxRecDepth 100000 in
set_option maxHeartbeats 2000000 in
theorem walk (n : Nat) : ∀ (t : Nd) (cs : List Value) (v : Value) (xs : List Spt) (d : Int) (M B : Nat) (w : World), t.ht ≤ n → RN w (· < B) t cs → Made elSpt w B 86 (· < B) v xs → B ≤ w.heap.size →
    xs.length ≤ M → M ≤ 10000 → 0 ≤ d → d ≤ xs.length + 1 →
    Calls Try.prog 131 #[v, .agg cs.toArray, .int .i64 d, .int .i64 (M : Int)] w (Walked w v B M xs t d) := by
  induction n with
  | zero => intro t cs v xs d M B w h; have := t.ht_pos; omega
  | succ n ih =>
  intro t cs v xs d M B w hn h hm hB hl hM hd0 hd
  obtain ⟨A, cap, rfl, hcap, hlen, hrow, hi, hk, ht⟩ := h.open
  have hk9 : t.kids.length ≤ 9223372036854775807 := by unfold kidsMax at hlen; omega
  obtain ⟨Av, capv, rfl, -⟩ := hm.slice
  by_cases hfull : M ≤ xs.length
  · have e : M - xs.length = 0 := by omega
    have hm' : Made elSpt (w.alloc (.cells #[.int .i64 t.id, .int .i64 t.kind, .string t.text, .slice A t.kids.length cap] 25)) B 86 (· < B) (.slice Av xs.length capv) (xs ++ (t.pre d).take (M - xs.length)) := by
      rw [e, List.take_zero, List.append_nil]; exact hm.later (Fr.new w _)
    clear e
    go_enter Try.func131, Try.ntmps131
    go_wp2_with fail
    go_ret
    exact ⟨_, rfl, hm', (Grew.refl w _).after (Fr.new w _)⟩
  · go_enter Try.func131, Try.ntmps131
    have hw := hm.lt
    have hy : elSpt.R w (fun k => k < B ∧ (Value.slice Av xs.length capv).ownBlock ≠ some k) ⟨t, d⟩ [.int .i64 t.id, .int .i64 t.kind, .string t.text, .slice A t.kids.length cap, .int .i64 d] :=
      ⟨_, rfl, h.mono fun k hk _ => ⟨hk, fun e => by have := hw k e; omega⟩⟩
    go_wp2_with (at_builtin; go_must (refine wpList_append_made elSpt B 71 86 _ 64 (· < B) rfl (.tmp 15) (.tmp 19) rfl Try.underlying71 info86 rfl (.slice Av xs.length capv) xs ⟨t, d⟩ [.int .i64 t.id, .int .i64 t.kind, .string t.text, .slice A t.kids.length cap, .int .i64 d] rfl rfl (by simp) ?c1 ?c2 ?c3 ?c4 ?c5 ?_))
    case c1 => exact hm.later (Fr.new w _)
    case c2 => exact elSpt.keep hy (Fr.new w _).keeps.all
    case c3 => omega
    case c4 => unfold maxLen; omega
    case c5 => omega
    intro v1 w1 hm1 hg1 hat1
    have hm1' := hm1.mono (T' := (· < B)) fun k hk _ => hk.1
    have hgr := Grew.of_append hg1 hat1 (by simp)
    obtain ⟨hb0, hvb⟩ := hgr.blk (Blk.new w _ _) (fun e => by have := hw _ e; omega)
    have Hgr := Lib.hid (Grew.before (Fr.new w _) hgr); clear hg1 hat1 hgr hm1
    go_wp2_with fail
    go_loopw [0, 9] (fun v i wr => ∃ (k : Nat) (ys : List Spt), k ≤ t.kids.length ∧ i = .int .i64 k ∧ Made elSpt wr B 86 (· < B) v ys ∧ ys = xs ++ (⟨t, d⟩ :: preL (t.kids.take k) (d + 1)).take (M - xs.length) ∧ Grew w wr (.slice Av xs.length capv) v ∧
        Blk wr w.heap.size [.int .i64 t.id, .int .i64 t.kind, .string t.text, .slice A t.kids.length cap] 25 ∧ v.ownBlock ≠ some w.heap.size)
      (fun _ i _ => t.kids.length - (intOf i).toNat)
    case atStart =>
      refine ⟨0, _, Nat.zero_le _, rfl, hm1', ?_, Hgr.out, hb0, hvb⟩
      rw [List.take_zero, preL, List.take_of_length_le (by simp; omega)]
    case round =>
      obtain ⟨k, ys, hkl, rfl, hK, hys, hgr, hb0, hvb⟩ := hrel
      have hbel : Below B w wr := hgr.below hB fun k hk => (hw k hk).1
      have hsz := hbel.size
      have hyl : ys.length ≤ M ∧ xs.length + 1 ≤ ys.length := by rw [hys]; simp; omega
      obtain ⟨f0, f1⟩ := hb0.rules
      have hrow' : Row elNd wr (· < B) A t.kids := hrow.keep (Keeps.of_below hbel) hbel.size
      have Hys := Lib.hid hys; clear hys
      obtain ⟨A2, cap2, rfl, -⟩ := hK.slice
      by_cases hlt : k < t.kids.length
      · obtain ⟨x, hx⟩ := get_some hlt
        have hxh := Nd.ht_get hx
        obtain ⟨g, off, A', cap', rfl, hgB, -, c0, c1, c2, c3, hxr⟩ := hrow'.kid hx
        have Htk := Lib.hid (show t.kids.take (k + 1) = t.kids.take k ++ [x] by rw [List.take_add_one, hx]; rfl)
        have Hh := Lib.hid (show x.ht ≤ n by omega)
        clear hx hxh hn
        go_wp2_with fail
        refine (ih x _ _ ys (d + 1) M B wr Hh.out hxr hK (by omega) (by omega) (by omega) (by omega) (by omega)).mono ?_
        rintro e w2 ⟨v2, rfl, hm2, hg2⟩
        have Hm2 := Lib.hid hm2
        have Hg2 := Lib.hid hg2
        obtain ⟨b0, hv2⟩ := hg2.blk hb0 hvb
        clear hm2 hg2
        go_wp2
        go_roundw
        case rel =>
          refine ⟨k + 1, _, by omega, by go_num, Hm2.out, ?_, hgr.trans Hg2.out, b0, hv2⟩
          rw [Hys.out, walk_more, Htk.out, preL_append, preL_one]; rfl
        case measure => simp [intOf]; omega
      · obtain rfl : k = t.kids.length := by omega
        have hfin : Made elSpt wr B 86 (· < B) (.slice A2 ys.length cap2) (xs ++ (t.pre d).take (M - xs.length)) := by
          rw [Nd.pre_eq, ← List.take_length (l := t.kids), ← Hys.out]; exact hK
        have Hf := Lib.hid hfin; clear hfin
        go_wp2
        go_ret
        exact ⟨_, rfl, Hf.out, hgr⟩

theorem Walk (t : Nd) (cs : List Value) (M : Nat) (w : World) (h : RT w t cs) (hM : M ≤ 10000) :
    Calls Try.prog 53 #[.agg cs.toArray, .int .i64 (M : Int)] w fun e w' => ∃ v, e = .returned v ∧ SlT elSpt w' v ((t.pre 1).take M) ∧ Fr w w' := by
  have h' := h
  obtain ⟨A, cap, rfl, hcap, hlen, hrow, hi, hk, ht⟩ := h'.open
  go_enter Try.func53, Try.ntmps53
  go_wp2_with fail
  refine (walk _ t _ (.slice none 0 0) [] 1 M w.heap.size _ (Nat.le_refl _) (h.old (Fr.new w _)) (Made.nil _ _ _ _ _) (by simp) (by simp) hM (by omega) (by simp)).mono ?_
  rintro e w1 ⟨v, rfl, hm, hg⟩
  have hf : Fr w w1 := Below.trans (Fr.new w _) (hg.below (by simp) (fun k hk => by simp [Value.ownBlock] at hk))
  have hs : SlT elSpt w1 v ((t.pre 1).take M) := by
    have := hm.reads
    simp only [List.nil_append, List.length_nil, Nat.sub_zero] at this
    exact this.mono fun _ _ _ => trivial
  clear hm hg
  go_wp2
  go_ret
  exact ⟨_, rfl, hs, hf⟩
end Go.Proofs.Ytbhmpbaembmlnaa
