/- allotmentref12.with. -/
import Derived.Test.YtbhmpbaembmlnaaA8
set_option linter.unusedVariables false
namespace Go.Proofs.Ytbhmpbaembmlnaa
open Go.RowKit

/-- A tree of one's own, its kids as a row that was made. -/
theorem OwnT.made {w : World} {S : Nat → Prop} {t : Nd} {cs : List Value} (h : OwnT w S t cs) :
    ∃ v, cs = [.int .i64 t.id, .int .i64 t.kind, .string t.text, v] ∧ Made elNd w 0 25 S v t.kids ∧ (∀ k, v.ownBlock = some k → S k) ∧ t.kids.length ≤ kidsMax := by
  cases h with
  | mk _ id kind text kids v css Fs hi hk ht hlen hrow hcl hr hd hv hS hSv =>
    exact ⟨v, rfl, ⟨css, hrow, hcl, fun j x cs hx hcs => (hr j x cs hx hcs).reads.mono fun k hk _ => ⟨hS j k hk, hv j k hk⟩⟩, hSv, hlen⟩

set_option maxHeartbeats 1000000 in
/-- A thing of four cells is put into a row that was made. -/
theorem Made.set4 {α : Type} {E : El α} {w : World} {base : Nat} {e : TypeId} {T : Nat → Prop} {g n cap : Nat} {xs : List α} (hE : E.size = 4) (h : Made E w base e T (.slice (some ⟨g, 0, none⟩) n cap) xs) {k : Nat} (hk : k < xs.length) {y : α} {u0 u1 u2 u3 : Value}
    (hy : E.R w (fun q => T q ∧ q ≠ g) y [u0, u1, u2, u3]) :
    Made E ((((w.setCell ⟨g, k * 4, none⟩ u0).setCell ⟨g, k * 4 + 1, none⟩ u1).setCell ⟨g, k * 4 + 2, none⟩ u2).setCell ⟨g, k * 4 + 3, none⟩ u3) base e T (.slice (some ⟨g, 0, none⟩) n cap) (xs.set k y) := by
  obtain ⟨css, hrow, hcl, hr⟩ := h
  have hn : n = xs.length := by
    rcases hrow.2 with ⟨h, _⟩ | ⟨_, _, _, h, _⟩
    · cases h
    · injection h
  subst hn
  have hm : ∀ cs ∈ css, cs.length = 4 := by
    intro cs hcs
    obtain ⟨j, hj, rfl⟩ := List.mem_iff_getElem.1 hcs
    obtain ⟨x, hx⟩ := get_some (l := xs) (k := j) (by omega)
    rw [← hE]
    exact E.len (hr j x _ hx (List.getElem?_eq_getElem hj))
  obtain ⟨c, hc⟩ := get_some (l := css) (k := k) (by omega)
  have hset : ∀ {css' : List (List Value)} {c' : List Value} (i : Nat) (u : Value), i < 4 → (∀ cs ∈ css', cs.length = 4) → css'[k]? = some c' → css'.flatten.set (k * 4 + i) u = (css'.set k (c'.set i u)).flatten := fun i u hi hm hc => flatten_set hi hm hc
  have hm' : ∀ {css' : List (List Value)} {c' : List Value}, (∀ cs ∈ css', cs.length = 4) → c'.length = 4 → ∀ cs ∈ css'.set k c', cs.length = 4 := by
    intro css' c' hm hc cs hcs
    rcases List.mem_or_eq_of_mem_set hcs with h | rfl
    · exact hm cs h
    · exact hc
  have hcl4 : c.length = 4 := hm c (List.mem_of_getElem? hc)
  obtain ⟨c0, c1, c2, c3, rfl⟩ : ∃ c0 c1 c2 c3, c = [c0, c1, c2, c3] := by
    match c, hcl4 with
    | [c0, c1, c2, c3], _ => exact ⟨c0, c1, c2, c3, rfl⟩
  have hrow' := hrow
  rw [hE] at hrow'
  have s0 := (hrow'.stored (k * 4 + 0) u0).1
  rw [hset 0 u0 (by decide) hm hc] at s0
  have hk2 : k < css.length := by omega
  have s1 := (s0.stored (k * 4 + 1) u1).1
  rw [hset 1 u1 (by decide) (hm' hm (by simp)) (List.getElem?_set_self hk2)] at s1
  have s2 := (s1.stored (k * 4 + 2) u2).1
  rw [hset 2 u2 (by decide) (hm' (hm' hm (by simp)) (by simp)) (List.getElem?_set_self (by simpa using hk2))] at s2
  have s3 := (s2.stored (k * 4 + 3) u3).1
  rw [hset 3 u3 (by decide) (hm' (hm' (hm' hm (by simp)) (by simp)) (by simp)) (List.getElem?_set_self (by simpa using hk2))] at s3
  simp only [List.set_set, List.set_cons_zero, List.set_cons_succ, Nat.add_zero] at s3
  have hK : Keeps (fun q => T q ∧ q ≠ g) w ((((w.setCell ⟨g, k * 4, none⟩ u0).setCell ⟨g, k * 4 + 1, none⟩ u1).setCell ⟨g, k * 4 + 2, none⟩ u2).setCell ⟨g, k * 4 + 3, none⟩ u3) := by
    refine Keeps.set ?_ (fun h => h.2 rfl) _ _
    refine Keeps.set ?_ (fun h => h.2 rfl) _ _
    refine Keeps.set ?_ (fun h => h.2 rfl) _ _
    refine Keeps.set ?_ (fun h => h.2 rfl) _ _
    exact Keeps.refl _ _
  refine ⟨css.set k [u0, u1, u2, u3], by rw [hE]; simpa using s3, by simp [hcl], ?_⟩
  intro j x cs hx hcs
  by_cases hjk : j = k
  · subst hjk
    rw [List.getElem?_set_self (by omega)] at hx hcs
    injection hx with hx; injection hcs with hcs
    subst hx; subst hcs
    exact E.mono (E.keep hy hK) fun q hq _ => ⟨hq.1, by simpa [Value.ownBlock] using fun e => hq.2 e.symm⟩
  · rw [List.getElem?_set_ne (by omega)] at hx hcs
    refine E.keep (hr j x cs hx hcs) (hK.weaken fun q hq _ => ⟨hq.1, ?_⟩)
    rintro rfl
    exact hq.2 rfl

theorem Keeps.alloc {S : Nat → Prop} {a b : World} (h : Keeps S a b) (hz : a.heap.size ≤ b.heap.size) (o : Obj) : Keeps S a (b.alloc o) :=
  fun k hk hl => (Below.heap_alloc _ _ _ (by omega)).trans (h k hk hl)
theorem Made.row {α : Type} {E : El α} {w : World} {base n cap : Nat} {e : TypeId} {T : Nat → Prop} {A : Option Addr} {xs : List α} (h : Made E w base e T (.slice A n cap) xs) : Row E w (fun k => T k ∨ (Value.slice A n cap).ownBlock = some k) A xs := by
  obtain ⟨A', cap', hv, _, hr⟩ := h.reads
  injection hv with h1 h2 h3
  subst h1
  exact hr

theorem Made.head {α : Type} {E : El α} {w : World} {base n cap g off : Nat} {e : TypeId} {T : Nat → Prop} {xs : List α} (h : Made E w base e T (.slice (some ⟨g, off, none⟩) n cap) xs) : off = 0 ∧ ∀ j, w.frozen? ⟨g, j, none⟩ = false := by
  obtain ⟨css, hrow, -⟩ := h
  rcases hrow.2 with ⟨h, _⟩ | ⟨g', cap', cur, hv, _, hg, _⟩
  · cases h
  · injection hv with h1 h2 h3
    injection h1 with h1
    injection h1 with h1 h4
    subst h1; subst h4
    exact ⟨rfl, fun j => by simp [World.frozen?, hg]⟩

def Withed (t : Nd) (r : Option Nd) (w : World) (e : Ending) (w' : World) : Prop :=
  ∃ cs' b, e = .returned (.tuple #[.agg cs'.toArray, .bool b]) ∧ Fr w w' ∧ b = r.isSome ∧ RN w' (fun k => w.heap.size ≤ k) (r.getD t) cs'

set_option maxRecDepth 100000 in
set_option maxHeartbeats 0 in
theorem rWith (id : Int) (s : ByteArray) (hs : s.size ≤ maxLen) (n : Nat) : ∀ (t : Nd) (cs : List Value) (w : World), t.ht ≤ n → RT w t cs →
    Calls Try.prog 94 #[.agg cs.toArray, .int .i64 id, .string s] w (Withed t (t.withText id s) w) := by
  induction n with
  | zero => intro t cs w h; have := t.ht_pos; omega
  | succ n ih =>
  intro t cs w hn h
  obtain ⟨A, cap, rfl, hcap, hlen, hrow, hi, hk, ht⟩ := h.open
  have hk9 : t.kids.length ≤ 9223372036854775807 := by unfold kidsMax at hlen; omega
  go_enter Try.func94, Try.ntmps94
  go_wp2_with fail
  refine (rCopy _ t _ _ (Nat.le_refl _) (h.later ((Fr.new w _).alloc _))).mono ?_
  rintro e w1 ⟨cs', rfl, hO, hf⟩
  have hO' := hO
  obtain ⟨v, rfl, hM, hvS, -⟩ := hO'.made
  obtain ⟨A2, cap2, rfl, hcap2⟩ := hM.slice
  have b0 := ((Blk.new w [.int .i64 t.id, .int .i64 t.kind, .string t.text, .slice A t.kids.length cap] 25).alloc (.cells #[.int .i64 0, .int .i64 0, .string ⟨#[]⟩, .slice none 0 0] 25)).later hf
  have b1 := (Blk.new (w.alloc (.cells #[.int .i64 t.id, .int .i64 t.kind, .string t.text, .slice A t.kids.length cap] 25)) [.int .i64 0, .int .i64 0, .string ⟨#[]⟩, .slice none 0 0] 25).later hf
  rw [World.size_alloc] at b1
  have hF : Fr w w1 := ((Fr.new w _).alloc _).trans hf
  obtain ⟨f0, f1⟩ := b0.rules
  obtain ⟨f2, f3⟩ := b1.rules
  have hz := b1.lt
  have hz0 := b0.lt
  have HO := Lib.hid hO; clear hO hO'
  have hrow3 : Row elNd w1 (fun k => w.heap.size + 2 ≤ k) A2 t.kids := hM.row.mono fun k hk _ => by
    rcases hk with hk | hk
    · simp at hk; omega
    · have := hvS k hk; simp at this; omega
  by_cases hid : t.id = id
  · have e1 : (t.id == id) = true := by simpa using hid
    have Hid' := Lib.hid hid; clear hid
    go_wp2
    refine bodyPost_ret (v := .tuple #[.agg #[.int .i64 t.id, .int .i64 t.kind, .string s, .slice A2 t.kids.length cap2], .bool true]) (by simp [results, Try.results94, go_sem, f2, hz]) rfl ⟨_, _, rfl, ?_, ?_⟩
    · (repeat (first | with_reducible refine Fr.set ?_ (by omega) _ _ | with_reducible refine Fr.alloc ?_ _))
      exact hF
    · rw [Nd.withText_eq, if_pos Hid'.out]
      refine ⟨rfl, RN.close (t := ⟨t.id, t.kind, s, t.kids⟩) hcap2 hlen ((hrow3.keep ?_ ?_).mono fun k hk _ => by omega) hi hk hs⟩
      · (repeat (first | with_reducible refine Keeps.alloc ?_ (by simp) _ | with_reducible refine Keeps.set ?_ (by omega) _ _))
        exact Keeps.refl _ _
      · simp
  · have e1 : (t.id == id) = false := by simpa using hid
    have Hid' := Lib.hid hid; clear hid
    have HF := Lib.hid hF; clear hF hf
    go_wp2_with fail
    go_loopw [9] (fun i wr => ∃ k : Nat, k ≤ t.kids.length ∧ i = .int .i64 k ∧ Hid (∀ (j : Nat) (x : Nd), j < k → t.kids[j]? = some x → x.withText id s = none) ∧ Fr w1 wr ∧ Blk wr w1.heap.size [.int .i64 t.id, .int .i64 t.kind, .string t.text, .slice A2 t.kids.length cap2] 25) (fun i _ => t.kids.length - (intOf i).toNat)
    case atStart => exact ⟨0, Nat.zero_le _, rfl, Lib.hid fun j x h => absurd h (by omega), Fr.new w1 _, Blk.new w1 _ _⟩
    case round =>
      obtain ⟨k, hkl, rfl, Hno, hw, hbo⟩ := hrel
      obtain ⟨f0, f1⟩ := (b0.later hw).rules
      obtain ⟨f2, f3⟩ := (b1.later hw).rules
      obtain ⟨f4, f5⟩ := hbo.rules
      have hzr := hbo.lt
      have hzr1 := (b1.later hw).lt
      by_cases hlt : k < t.kids.length
      · obtain ⟨x, hx⟩ := get_some hlt
        have hxh := Nd.ht_get hx
        obtain ⟨g, off, A', cap', rfl, hgS, hgl, c0, c1, c2, c3, hxr⟩ := ((hM.row).keep hw.keeps.all hw.size).kid hx
        have Hx := Lib.hid hx
        have Hh := Lib.hid (show x.ht ≤ n by omega)
        clear hx hxh hn
        go_wp2_with fail
        refine (ih x _ _ Hh.out hxr.here).mono ?_
        rintro e w2 ⟨ck, b, rfl, hfk, rfl, hm⟩
        cases hx : x.withText id s with
        | none =>
          rw [hx] at hm
          obtain ⟨C, cap3, rfl, -⟩ := hm.open
          have Hw := Lib.hid hx; clear hx hm
          have hbo2 := hbo.later hfk
          obtain ⟨g0, g1⟩ := hbo2.rules
          go_wp2
          go_roundw
          case rel =>
            refine ⟨k + 1, by omega, by go_num, Lib.hid fun j z hj hz => ?_, (hw.trans hfk).alloc _, hbo2.alloc _⟩
            by_cases hjk : j = k
            · subst hjk
              have := Hx.out
              rw [this] at hz
              injection hz with hz
              subst hz
              exact Hw.out
            · exact Hno.out j z (by omega) hz
          case measure => simp [intOf]; omega
        | some y =>
          rw [hx] at hm
          obtain ⟨C, cap3, rfl, -⟩ := RN.open hm
          have Hm := Lib.hid hm
          have Hw := Lib.hid hx; clear hx hm
          have hbo2 := hbo.later hfk
          obtain ⟨g0, g1⟩ := hbo2.rules
          have hz2 := hbo2.lt
          obtain ⟨g2, g3⟩ := (b1.later (hw.trans hfk)).rules
          have hz3 := (b1.later (hw.trans hfk)).lt
          have hM2 := hM.later (hw.trans hfk)
          obtain ⟨rfl, fz⟩ := hM2.head
          have hgz : g < w2.heap.size := Nat.lt_of_lt_of_le hgl hfk.size
          have d0 := (hfk.rules.1 g _ hgl).trans c0
          have d1 := (hfk.rules.1 g _ hgl).trans c1
          have d2 := (hfk.rules.1 g _ hgl).trans c2
          have d3 := (hfk.rules.1 g _ hgl).trans c3
          simp only [Nat.zero_add] at d0 d1 d2 d3
          have hg1 : g < w1.heap.size := (hM.lt g rfl).2
          have hg0 : w.heap.size + 2 ≤ g := by have := hvS g rfl; simp at this; omega
          have n1 : g ≠ w1.heap.size := by omega
          have n2 : w1.heap.size ≠ g := by omega
          have n3 : g ≠ w.heap.size + 1 := by omega
          have n4 : w.heap.size + 1 ≠ g := by omega
          have hM3 := Lib.hid (Made.set4 (E := elNd) rfl (hM2.mono (T' := fun q => w.heap.size + 2 ≤ q) fun q hq _ => by simp at hq; omega) hlt ((Hm.out.mono (fun q hq _ => ⟨by have := hzr; omega, by omega⟩))))
          go_wp2
          refine bodyPost_ret (v := .tuple #[.agg #[.int .i64 t.id, .int .i64 t.kind, .string t.text, .slice (some ⟨g, 0, none⟩) t.kids.length cap2], .bool true]) (by simp [results, Try.results94, go_sem, g2, hz3]) rfl ⟨_, _, rfl, ?_, ?_⟩
          · (repeat (first | with_reducible refine Fr.set ?_ (by omega) _ _ | with_reducible refine Fr.alloc ?_ _))
            exact HF.out.trans (hw.trans hfk)
          · rw [Nd.withText_eq, if_neg Hid'.out, withTextL_some Hno.out ⟨x, Hx.out, Hw.out⟩]
            have hrow4 := hM3.out.row.mono (S' := fun q => w.heap.size + 2 ≤ q) fun q hq _ => by
              rcases hq with hq | hq
              · exact hq
              · simp [Value.ownBlock] at hq; omega
            have hcl : ∀ W, Keeps (fun q => w.heap.size + 2 ≤ q) _ W → _ → RN W (fun k => w.heap.size ≤ k) ⟨t.id, t.kind, t.text, t.kids.set k y⟩ [.int .i64 t.id, .int .i64 t.kind, .string t.text, .slice (some ⟨g, 0, none⟩) t.kids.length cap2] := fun W h1 h2 => by
              have := RN.close (t := ⟨t.id, t.kind, t.text, t.kids.set k y⟩) (by simpa using hcap2) (by simpa using hlen) ((hrow4.keep h1 h2).mono (S' := fun k => w.heap.size ≤ k) fun k hk _ => by omega) hi hk ht
              simpa only [List.length_set] using this
            refine ⟨rfl, hcl _ ?k1 ?k2⟩
            case k1 =>
              (repeat (first | with_reducible refine Keeps.alloc ?_ (by simp) _ | with_reducible refine Keeps.set ?_ (by omega) _ _))
              exact Keeps.refl _ _
            case k2 => simp
      · go_wp2
        refine bodyPost_ret (v := .tuple #[.agg #[.int .i64 t.id, .int .i64 t.kind, .string t.text, .slice A2 t.kids.length cap2], .bool false]) (by simp [results, Try.results94, go_sem, f2]) rfl ⟨_, _, rfl, ?_, ?_⟩
        · (repeat (first | with_reducible refine Fr.set ?_ (by omega) _ _ | with_reducible refine Fr.alloc ?_ _))
          exact HF.out.trans hw
        · rw [Nd.withText_eq, if_neg Hid'.out, withTextL_none fun j x hx => Hno.out j x (by have := get_lt hx; omega) hx]
          refine ⟨rfl, RN.close (t := t) hcap2 hlen ((hrow3.keep ?_ ?_).mono fun k hk _ => by omega) hi hk ht⟩
          · (repeat (first | with_reducible refine Keeps.alloc ?_ (by simp [size_set]) _ | with_reducible refine Keeps.set ?_ (by omega) _ _))
            exact hw.keeps.all
          · simp only [size_set]; exact hw.size
end Go.Proofs.Ytbhmpbaembmlnaa
