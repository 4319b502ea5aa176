/- The document's readers: node. -/
import Derived.Test.YtbhmpbaembmlnaaF4
import Derived.Test.YtbhmpbaembmlnaaE5
set_option linter.unusedVariables false
namespace Go.Proofs.Ytbhmpbaembmlnaa
open Go.RowKit

/-- A node's reading, of a reader wherever it is. -/
def rdFrom (bs : List Int) (f : Nat) (m : Nat) : Rs → Except Nat (Nd × (Nat × Nat))
  | .error b => .error b
  | .ok a => rdNode bs f (a, m)

def RfNode (q B : Nat) (bs : List Int) (r : Except Nat (Nd × (Nat × Nat))) (w : World) (e : Ending) (w' : World) : Prop :=
  ∃ (y : Nd) (cs : List Value) (m' : Nat), e = .returned (.agg cs.toArray) ∧ RN w' (w.heap.size ≤ ·) y cs ∧ Trn (· = q) w w' ∧ match r with
    | .ok (x, s) => y = x ∧ m' = s.2 ∧ RfSt w' q B bs m' (.ok s.1) ∧ m' ≤ 200
    | .error b => RfSt w' q B bs m' (.error b)

theorem node_chain {bs : List Int} {f m a : Nat} (hm : ¬ 200 < m + 1) {id kind n : Int} {text : ByteArray} {s1 s2 s3 s4 : Rs}
    (h1 : asked (rdNum bs) 0 (.ok a) = (id, s1)) (h2 : asked (rdNum bs) 0 s1 = (kind, s2)) (h3 : asked (rdText bs) ⟨#[]⟩ s2 = (text, s3)) (h4 : asked (rdCount bs 32 bs.length) 0 s3 = (n, s4)) :
    (∀ b, s4 = .error b → n = 0 ∧ rdNode bs (f + 1) (a, m) = .error b) ∧
    (∀ a4, s4 = .ok a4 → rdNode bs (f + 1) (a, m) = match rdList (rdNode bs f) n.toNat (a4, m + 1) with
      | .error b => .error b
      | .ok (kids, s) => .ok (⟨id, kind, text, kids⟩, s)) := by
  unfold asked at h1
  cases e1 : rdNum bs a with
  | error b1 =>
    simp [e1] at h1; obtain ⟨rfl, rfl⟩ := h1
    simp [asked] at h2; obtain ⟨rfl, rfl⟩ := h2
    simp [asked] at h3; obtain ⟨rfl, rfl⟩ := h3
    simp [asked] at h4; obtain ⟨rfl, rfl⟩ := h4
    exact ⟨fun b hb => ⟨rfl, by injection hb with hb; subst hb; simp [rdNode, hm, e1]⟩, fun a4 h => by cases h⟩
  | ok r =>
  obtain ⟨id', a1⟩ := r
  simp [e1] at h1; obtain ⟨rfl, rfl⟩ := h1
  unfold asked at h2
  cases e2 : rdNum bs a1 with
  | error b1 =>
    simp [e2] at h2; obtain ⟨rfl, rfl⟩ := h2
    simp [asked] at h3; obtain ⟨rfl, rfl⟩ := h3
    simp [asked] at h4; obtain ⟨rfl, rfl⟩ := h4
    exact ⟨fun b hb => ⟨rfl, by injection hb with hb; subst hb; simp [rdNode, hm, e1, e2]⟩, fun a4 h => by cases h⟩
  | ok r =>
  obtain ⟨kind', a2⟩ := r
  simp [e2] at h2; obtain ⟨rfl, rfl⟩ := h2
  unfold asked at h3
  cases e3 : rdText bs a2 with
  | error b1 =>
    simp [e3] at h3; obtain ⟨rfl, rfl⟩ := h3
    simp [asked] at h4; obtain ⟨rfl, rfl⟩ := h4
    exact ⟨fun b hb => ⟨rfl, by injection hb with hb; subst hb; simp [rdNode, hm, e1, e2, e3]⟩, fun a4 h => by cases h⟩
  | ok r =>
  obtain ⟨text', a3⟩ := r
  simp [e3] at h3; obtain ⟨rfl, rfl⟩ := h3
  unfold asked at h4
  cases e4 : rdCount bs 32 bs.length a3 with
  | error b1 =>
    simp [e4] at h4; obtain ⟨rfl, rfl⟩ := h4
    exact ⟨fun b hb => ⟨rfl, by injection hb with hb; subst hb; simp [rdNode, hm, e1, e2, e3, e4]⟩, fun a4 h => by cases h⟩
  | ok r =>
  obtain ⟨n', a4⟩ := r
  simp [e4] at h4; obtain ⟨rfl, rfl⟩ := h4
  refine ⟨fun b h => (by cases h), fun a5 h => ?_⟩
  injection h with h; subst h
  simp [rdNode, hm, e1, e2, e3, e4]
  rfl

theorem asked_num_wf {bs : List Int} {st s : Rs} {x : Int} (h : asked (rdNum bs) 0 st = (x, s)) : (Lit.int .i64 x).wf = true := by
  cases st with
  | error b => simp [asked] at h; obtain ⟨rfl, -⟩ := h; decide
  | ok a =>
    by_cases hc : bs.length < a + 8
    · simp [asked, rdNum, hc] at h; obtain ⟨rfl, -⟩ := h; decide
    · simp [asked, rdNum, hc] at h; obtain ⟨rfl, -⟩ := h; exact wrap64_wf _
theorem asked_text_le {bs : List Int} {st s : Rs} {x : ByteArray} (h : asked (rdText bs) ⟨#[]⟩ st = (x, s)) (hl : bs.length ≤ 1000000) : x.size ≤ maxLen := by
  cases hc : asked (rdCount bs 1 bs.length) 0 st with
  | mk n s1 =>
  have := asked_text hc
  rw [h] at this
  cases s1 with
  | error b => simp at this; obtain ⟨rfl, -⟩ := this; exact Nat.zero_le _
  | ok a =>
    simp at this
    obtain ⟨rfl, -⟩ := this
    rw [strOfNums_size, List.length_take, List.length_drop]
    unfold maxLen; omega

theorem zeroNd_reads (w : World) (S : Nat → Prop) : RN w S ⟨0, 0, ⟨#[]⟩, []⟩ [.int .i64 0, .int .i64 0, .string ⟨#[]⟩, .slice none 0 0] := RN.close (t := ⟨0, 0, ⟨#[]⟩, []⟩) (A := none) (cap := 0) (Nat.le_refl _) (by simp) (Row.nil _ _ _ _) (by decide) (by decide) (Nat.zero_le _)

set_option maxRecDepth 100000 in
set_option maxHeartbeats 1000000 in
theorem rNode108_bad (q B : Nat) (bs : List Int) (b m : Nat) (d : Int) (w : World) (h : RfSt w q B bs m (.error b)) :
    Calls Try.prog 108 #[.pointer (some ⟨q, 0, none⟩), .int .i64 d] w (RfNode q B bs (.error b) w) := by
  have H := Lib.hid h
  obtain ⟨hbl, a, ⟨A, cp, hbk, hcap, hrow, h1, h2, hpB, hBz⟩⟩ := h
  obtain ⟨f0, f1⟩ := hbk.rules
  have hz := hbk.lt
  clear hrow
  go_enter Try.func108, Try.ntmps108
  go_wp2
  refine bodyPost_ret (v := .agg #[.int .i64 0, .int .i64 0, .string ⟨#[]⟩, .slice none 0 0]) (by simp [results, Try.results108, go_sem]) rfl ?_
  exact ⟨_, _, m, rfl, zeroNd_reads _ _, Trn.of_fr (Fr.new w _), H.out.keep (Fr.new w _)⟩

set_option maxRecDepth 100000 in
set_option maxHeartbeats 1000000 in
theorem rNode108_deep (q B : Nat) (bs : List Int) (a m : Nat) (d : Int) (w : World) (hm : m ≤ 200) (hd : 40 < d ∨ 200 < m + 1) (hd2 : d ≤ 41) (h : RfSt w q B bs m (.ok a)) :
    Calls Try.prog 108 #[.pointer (some ⟨q, 0, none⟩), .int .i64 d] w (RfNode q B bs (.error a) w) := by
  have h' : RfAt w q B bs a (-1) m := h
  have H := Lib.hid h'
  obtain ⟨A, cp, hbk, hcap, hrow, h1, h2, hpB, hBz⟩ := h'
  obtain ⟨f0, f1⟩ := hbk.rules
  have hz := hbk.lt
  have hwm : IntKind.i64.wrap ((m : Int) + 1) = m + 1 := wrap_small _ (by omega) (by omega)
  clear hrow
  have hF : Fr (w.setCell ⟨q, 3, none⟩ (.int .i64 ((m : Int) + 1))) ((w.setCell ⟨q, 3, none⟩ (.int .i64 ((m : Int) + 1))).alloc (.cells #[.int .i64 0, .int .i64 0, .string ⟨#[]⟩, .slice none 0 0] 25)) := Fr.new _ _
  have H2 := Lib.hid ((H.out.set3 (m' := (m : Int) + 1)).keep hF)
  have b0 := Blk.new (w.setCell ⟨q, 3, none⟩ (.int .i64 ((m : Int) + 1))) [.int .i64 0, .int .i64 0, .string ⟨#[]⟩, .slice none 0 0] 25
  rw [size_set] at b0
  have hcase : decide ((40 : Int) < d) = true ∨ decide ((40 : Int) < d) = false ∧ decide ((200 : Int) < (m : Int) + 1) = true := by
    by_cases h : (40 : Int) < d
    · exact .inl (by simpa using h)
    · exact .inr ⟨by simpa using h, by simp; omega⟩
  rcases hcase with e1 | ⟨e1, e2⟩
  all_goals
    go_enter Try.func108, Try.ntmps108
    go_wp2_with fail
    refine (rFails q B bs a a ((m : Int) + 1) _ H2.out h1).mono ?_
    rintro e w1 ⟨rfl, hR, hT⟩
    have hb1 := b0.trn hT (by omega)
    have HR := Lib.hid hR
    have HT := Lib.hid (((Trn.refl (· = q) w).setp 3 (.int .i64 ((m : Int) + 1))).alloc (.cells #[.int .i64 0, .int .i64 0, .string ⟨#[]⟩, .slice none 0 0] 25) |>.trans hT)
    have hz1 := hb1.lt
    obtain ⟨r1, r2⟩ := hb1.rules
    clear hR hT f0 f1
    go_wp2
    have hb2 := (((hb1.set 0 (.int .i64 0)).set 1 (.int .i64 0)).set 2 (.string ⟨#[]⟩)).set 3 (.slice none 0 0)
    obtain ⟨q0, -⟩ := hb2.rules
    refine bodyPost_ret (v := .agg #[.int .i64 0, .int .i64 0, .string ⟨#[]⟩, .slice none 0 0]) (by simp [results, Try.results108, go_sem, q0]) rfl ?_
    refine ⟨_, _, m + 1, rfl, zeroNd_reads _ _, (((HT.out.set (.inr (Nat.le_refl _)) _ _).set (.inr (Nat.le_refl _)) _ _).set (.inr (Nat.le_refl _)) _ _).set (.inr (Nat.le_refl _)) _ _, ?_⟩
    refine RfSt.keepB (w := w1) HR.out ?_ ?_
    · (repeat (with_reducible refine Keeps.set ?_ (by omega) _ _))
      exact Keeps.refl _ _
    · simp only [size_set]; exact Nat.le_refl _

set_option maxRecDepth 100000 in
set_option maxHeartbeats 4000000 in
theorem rNode108 (q B : Nat) (bs : List Int) (f : Nat) : ∀ (st : Rs) (m : Nat) (w : World), f ≤ 40 → m ≤ 200 → RfSt w q B bs m st →
    Calls Try.prog 108 #[.pointer (some ⟨q, 0, none⟩), .int .i64 (41 - (f : Int))] w (RfNode q B bs (rdFrom bs f m st) w) := by
  induction f with
  | zero =>
    intro st m w hf hm h
    cases st with
    | error b => exact rNode108_bad q B bs b m _ w h
    | ok a => exact rNode108_deep q B bs a m _ w hm (.inl (by omega)) (by omega) h
  | succ f ih =>
    intro st m w hf hm h
    cases st with
    | error b => exact rNode108_bad q B bs b m _ w h
    | ok a =>
      by_cases hbig : 200 < m + 1
      · rw [show rdFrom bs (f + 1) m (.ok a) = .error a by simp [rdFrom, rdNode, hbig]]
        exact rNode108_deep q B bs a m _ w hm (.inr hbig) (by omega) h
      have h' : RfAt w q B bs a (-1) m := h
      have H := Lib.hid h'
      have hq := h.low
      have IH := Lib.hid ih
      clear ih h
      obtain ⟨A, cp, hbk, hcap, hrow, h1, h2, hpB, hBz⟩ := h'
      obtain ⟨f0, f1⟩ := hbk.rules
      have hz := hbk.lt
      have hwm : IntKind.i64.wrap ((m : Int) + 1) = m + 1 := wrap_small _ (by omega) (by omega)
      clear hrow
      have e2 : decide ((40 : Int) < 41 - ((f : Int) + 1)) = false := by simp; omega
      have e2' : decide ((40 : Int) < 41 - ((f + 1 : Nat) : Int)) = false := by simp; omega
      have e1 : decide ((200 : Int) < (m : Int) + 1) = false := by simp; omega
      have hF : Fr (w.setCell ⟨q, 3, none⟩ (.int .i64 ((m : Int) + 1))) ((w.setCell ⟨q, 3, none⟩ (.int .i64 ((m : Int) + 1))).alloc (.cells #[.int .i64 0, .int .i64 0, .string ⟨#[]⟩, .slice none 0 0] 25)) := Fr.new _ _
      have HS0 : Hid (RfSt ((w.setCell ⟨q, 3, none⟩ (.int .i64 ((m : Int) + 1))).alloc (.cells #[.int .i64 0, .int .i64 0, .string ⟨#[]⟩, .slice none 0 0] 25)) q B bs ((m : Int) + 1) (.ok a)) := Lib.hid ((H.out.set3 (m' := (m : Int) + 1)).keep hF)
      have b0 := Blk.new (w.setCell ⟨q, 3, none⟩ (.int .i64 ((m : Int) + 1))) [.int .i64 0, .int .i64 0, .string ⟨#[]⟩, .slice none 0 0] 25
      rw [size_set] at b0
      have HT0 := Lib.hid (((Trn.refl (· = q) w).setp 3 (.int .i64 ((m : Int) + 1))).alloc (.cells #[.int .i64 0, .int .i64 0, .string ⟨#[]⟩, .slice none 0 0] 25))
      go_enter Try.func108, Try.ntmps108
      go_wp2_with fail
      refine (rNumber q B bs ((m : Int) + 1) (.ok a) _ HS0.out).mono ?_
      rintro e w1 ⟨rfl, hS, hT⟩
      have b1 := b0.trn hT (by omega)
      obtain ⟨id, s1, hn1⟩ : ∃ id s1, asked (rdNum bs) 0 (.ok a) = (id, s1) := ⟨_, _, rfl⟩
      rw [hn1] at hS
      have HS1 := Lib.hid hS
      have HT1 := Lib.hid (HT0.out.trans hT)
      rw [hn1]
      have Hn1 := Lib.hid hn1
      clear hS hT hn1 b0 f0 f1
      go_wp2_with fail
      refine (rNumber q B bs ((m : Int) + 1) s1 _ HS1.out).mono ?_
      rintro e w2 ⟨rfl, hS, hT⟩
      have b2 := b1.trn hT (by omega)
      obtain ⟨kind, s2, hn2⟩ : ∃ id s2, asked (rdNum bs) 0 s1 = (id, s2) := ⟨_, _, rfl⟩
      rw [hn2] at hS
      have HS2 := Lib.hid hS
      have HT2 := Lib.hid (HT1.out.trans hT)
      rw [hn2]
      have Hn2 := Lib.hid hn2
      clear hS hT hn2 b1
      go_wp2_with fail
      refine (rText q B bs ((m : Int) + 1) s2 _ HS2.out).mono ?_
      rintro e w3 ⟨rfl, hS, hT⟩
      have b3 := b2.trn hT (by omega)
      obtain ⟨text, s3, hn3⟩ : ∃ id s3, asked (rdText bs) ⟨#[]⟩ s2 = (id, s3) := ⟨_, _, rfl⟩
      rw [hn3] at hS
      have HS3 := Lib.hid hS
      have HT3 := Lib.hid (HT2.out.trans hT)
      rw [hn3]
      have Hn3 := Lib.hid hn3
      clear hS hT hn3 b2
      have hst : ∃ (a : Nat) (bad : Int), RfAt w3 q B bs a bad ((m : Int) + 1) := by
        have := HS3.out
        cases s3 with
        | ok a => exact ⟨a, _, this⟩
        | error b => exact this.2.elim fun a ha => ⟨a, _, ha⟩
      obtain ⟨a3, bad3, ⟨A3, cp3, hbk3, hcap3, -, h13, -⟩⟩ := hst
      obtain ⟨f0, f1⟩ := hbk3.rules
      have hz3 := b3.lt
      have hql : q < w3.heap.size := hbk3.lt
      go_wp2_with fail
      have hFx : Fr w3 (w3.alloc (.cells #[.int .i64 id, .int .i64 kind, .string text, .slice none 0 0] 25)) := Fr.new w3 _
      have bx := Blk.new w3 [.int .i64 id, .int .i64 kind, .string text, .slice none 0 0] 25
      refine (rCount q B bs 32 bs.length ((m : Int) + 1) s3 _ (HS3.out.keep hFx)).mono ?_
      rintro e w4 ⟨rfl, hS, hT⟩
      have b4 := (b3.later hFx).trn hT (by omega)
      have bx4 := bx.trn hT (by omega)
      obtain ⟨n, s4, hn4⟩ : ∃ n s4, asked (rdCount bs 32 bs.length) 0 s3 = (n, s4) := ⟨_, _, rfl⟩
      obtain ⟨hch1, hch2⟩ := node_chain (f := f) hbig Hn1.out Hn2.out Hn3.out hn4
      rw [hn4] at hS
      have hwid := asked_num_wf Hn1.out
      have hwkind := asked_num_wf Hn2.out
      have hwtext := asked_text_le Hn3.out h2
      obtain ⟨k, rfl, hk6⟩ : ∃ k : Nat, n = k ∧ k ≤ 1000000 := by
        cases s4 with
        | error b => exact ⟨0, (hch1 b rfl).1, by omega⟩
        | ok a4 =>
          have ha4 : a4 ≤ bs.length := by obtain ⟨_, _, _, _, _, h, _⟩ := hS; exact h
          obtain ⟨c0, c1, c2⟩ := asked_count hn4 ha4
          exact ⟨n.toNat, by omega, by omega⟩
      have HS4 := Lib.hid hS
      have HT4 := Lib.hid ((HT3.out.trans (Trn.of_fr hFx)).trans hT)
      have Hg1 := Lib.hid hch1
      have Hg2 := Lib.hid hch2
      rw [hn4]
      have hz4 := bx4.lt
      obtain ⟨X, hX⟩ : ∃ X, w3.heap.size = X := ⟨_, rfl⟩
      rw [hX] at bx4 hz4 ⊢
      have hXw : w.heap.size < X := by rw [← hX]; exact b3.lt
      clear hS hT hn4 b3 bx hFx f0 f1 hch1 hch2 hbk3 hX hz3 hql hbk
      go_wp2_with fail
      go_loopw [11] (fun i wr => ∃ (j : Nat) (v : Value) (xs : List Nd) (st' : Rs) (m' : Nat), j ≤ k ∧ i = .int .i64 j ∧ Made elNd wr (X + 1) 25 (X + 1 ≤ ·) v xs ∧ Hid (Trn (· = q) w wr) ∧ Hid (RfSt wr q B bs m' st') ∧ Blk wr w.heap.size [.int .i64 0, .int .i64 0, .string ⟨#[]⟩, .slice none 0 0] 25 ∧ Blk wr X [.int .i64 id, .int .i64 kind, .string text, v] 25 ∧ Hid (xs.length = j) ∧
          Hid (match st' with
            | .error b => rdNode bs (f + 1) (a, m) = .error b
            | .ok a' => m' ≤ 200 ∧ ∃ a4, s4 = .ok a4 ∧ rdList (rdNode bs f) j (a4, m + 1) = .ok (xs, (a', m'))))
        (fun i _ => k - (intOf i).toNat)
      case atStart =>
        refine ⟨0, _, [], s4, m + 1, Nat.zero_le _, rfl, Made.nil _ _ _ _ _, HT4, HS4, b4, bx4, Lib.hid rfl, Lib.hid ?_⟩
        cases s4 with
        | error b => exact (Hg1.out b rfl).2
        | ok a4 => exact ⟨by omega, a4, rfl, rfl⟩
      case round =>
        obtain ⟨j, v, xs, st', m', hjk, rfl, hM, HT, HS, hb0, hbx, Hxl, Hg⟩ := hrel
        obtain ⟨Av, cv, rfl, hcv⟩ := hM.sliceN Hxl.out
        have hMl := hM.lt
        have HM := Lib.hid hM
        obtain ⟨r1, r2⟩ := hbx.rules
        obtain ⟨y1, y2⟩ := hb0.rules
        have hz0 := hb0.lt
        have hzx := hbx.lt
        have hXw2 : w.heap.size ≠ X := by omega
        have hXw3 : X ≠ w.heap.size := by omega
        clear hM
        -- what stands behind the loop
        have hend : ∀ (r : Except Nat (Nd × (Nat × Nat))), (match r with
            | .ok (x, s) => (⟨id, kind, text, xs⟩ : Nd) = x ∧ m' = s.2 ∧ RfSt wr q B bs m' (.ok s.1) ∧ m' ≤ 200
            | .error b => RfSt wr q B bs m' (.error b)) → r = rdFrom bs (f + 1) m (.ok a) →
            ∀ W', W' = ((((wr.setCell ⟨w.heap.size, 0, none⟩ (.int .i64 id)).setCell ⟨w.heap.size, 1, none⟩ (.int .i64 kind)).setCell ⟨w.heap.size, 2, none⟩ (.string text)).setCell ⟨w.heap.size, 3, none⟩ (.slice Av j cv)) →
            RfNode q B bs (rdFrom bs (f + 1) m (.ok a)) w (.returned (.agg #[.int .i64 id, .int .i64 kind, .string text, .slice Av j cv])) W' := by
          rintro r hr rfl W' rfl
          have hk : ∀ (S : Nat → Prop), ¬ S w.heap.size → Keeps S wr ((((wr.setCell ⟨w.heap.size, 0, none⟩ (.int .i64 id)).setCell ⟨w.heap.size, 1, none⟩ (.int .i64 kind)).setCell ⟨w.heap.size, 2, none⟩ (.string text)).setCell ⟨w.heap.size, 3, none⟩ (.slice Av j cv)) :=
            fun S hS => ((((Keeps.refl S wr).set hS 0 _).set hS 1 _).set hS 2 _).set hS 3 _
          have hrow : Row elNd wr (X + 1 ≤ ·) Av xs := by
            obtain ⟨A', cap', hA', -, hrow⟩ := HM.out.reads
            injection hA' with q1 q2 q3
            subst q1
            exact hrow.mono fun p hp _ => hp.elim (fun h => h) fun e => (hMl p e).1
          have hRN : RN ((((wr.setCell ⟨w.heap.size, 0, none⟩ (.int .i64 id)).setCell ⟨w.heap.size, 1, none⟩ (.int .i64 kind)).setCell ⟨w.heap.size, 2, none⟩ (.string text)).setCell ⟨w.heap.size, 3, none⟩ (.slice Av j cv)) (w.heap.size ≤ ·) ⟨id, kind, text, xs⟩ [.int .i64 id, .int .i64 kind, .string text, .slice Av j cv] := by
            have := RN.close (t := ⟨id, kind, text, xs⟩) (A := Av) (cap := cv) (by rw [show xs.length = j from Hxl.out]; exact hcv) (by rw [show xs.length = j from Hxl.out]; unfold kidsMax; omega) (Row.keep hrow (hk (X + 1 ≤ ·) (by omega)) (by simp only [size_set]; exact Nat.le_refl _)) hwid hwkind hwtext
            rw [show xs.length = j from Hxl.out] at this
            exact RN.mono this (fun k (hk : X + 1 ≤ k) _ => (by omega : w.heap.size ≤ k))
          have hst : ∀ st, RfSt wr q B bs m' st → RfSt ((((wr.setCell ⟨w.heap.size, 0, none⟩ (.int .i64 id)).setCell ⟨w.heap.size, 1, none⟩ (.int .i64 kind)).setCell ⟨w.heap.size, 2, none⟩ (.string text)).setCell ⟨w.heap.size, 3, none⟩ (.slice Av j cv)) q B bs m' st := fun st h =>
            h.keepB (hk _ (by omega)) (by simp only [size_set]; exact Nat.le_refl _)
          refine ⟨⟨id, kind, text, xs⟩, _, m', rfl, hRN, (((HT.out.set (.inr (Nat.le_refl _)) _ _).set (.inr (Nat.le_refl _)) _ _).set (.inr (Nat.le_refl _)) _ _).set (.inr (Nat.le_refl _)) _ _, ?_⟩
          cases hrr : rdFrom bs (f + 1) m (.ok a) with
          | error b => rw [hrr] at hr; exact hst _ hr
          | ok z => rw [hrr] at hr; obtain ⟨z1, z2, z3, z4⟩ := hr; exact ⟨z1, z2, hst _ z3, z4⟩
        cases st' with
        | error b' =>
          obtain ⟨hbl, a', ⟨A', cp', hbk, -, -, -, -, -, -⟩⟩ := HS.out
          obtain ⟨f0, f1⟩ := hbk.rules
          have hql : q < wr.heap.size := hbk.lt
          have HE := Lib.hid (hend (.error b') HS.out Hg.out.symm _ rfl)
          clear hend
          have hb2 := (((hb0.set 0 (.int .i64 id)).set 1 (.int .i64 kind)).set 2 (.string text)).set 3 (.slice Av j cv)
          have hd : decide ((b' : Int) < 0) = false := by simp
          by_cases hlt : j < k
          all_goals
            go_wp2
            obtain ⟨q0, -⟩ := hb2.rules
            exact bodyPost_ret (v := .agg #[.int .i64 id, .int .i64 kind, .string text, .slice Av j cv]) (by simp [results, Try.results108, go_sem, q0]) rfl HE.out
        | ok a' =>
          obtain ⟨A', cp', hbk, -, -, -, -, -, -⟩ := HS.out
          obtain ⟨f0, f1⟩ := hbk.rules
          have hql : q < wr.heap.size := hbk.lt
          obtain ⟨hm2, a4, hs4, hl4⟩ := Hg.out
          have HG2 := Lib.hid (Hg2.out a4 hs4)
          have Hl4 := Lib.hid hl4
          clear hl4 hs4
          by_cases hlt : j < k
          · have hwd : IntKind.i64.wrap (41 - ((f : Int) + 1) + 1) = 41 - f := by rw [wrap_small _ (by omega) (by omega)]; omega
            clear hend
            go_wp2_with fail
            refine (IH.out (.ok a') m' wr (by omega) hm2 HS.out).mono ?_
            rintro e w5 ⟨y, cs, m5, rfl, hR, hT5, hr⟩
            obtain ⟨Ay, cy, rfl, -⟩ := hR.open
            obtain ⟨st5, hS5, hG5⟩ : ∃ st5, RfSt w5 q B bs m5 st5 ∧ (match st5 with
                | .error b => rdNode bs (f + 1) (a, m) = .error b
                | .ok a' => m5 ≤ 200 ∧ ∃ a4, s4 = .ok a4 ∧ rdList (rdNode bs f) (j + 1) (a4, m + 1) = .ok (xs ++ [y], (a', m5))) := by
              cases hrd : rdFrom bs f m' (.ok a') with
              | error b =>
                rw [hrd] at hr
                refine ⟨.error b, hr, ?_⟩
                show rdNode bs (f + 1) (a, m) = .error b
                rw [HG2.out, Int.toNat_natCast, rdList_err Hl4.out hrd k hlt]
              | ok z =>
                obtain ⟨x, s⟩ := z
                rw [hrd] at hr
                obtain ⟨rfl, rfl, hr3, hr4⟩ := hr
                obtain ⟨-, a4', hs4', hl4'⟩ := Hg.out
                exact ⟨.ok s.1, hr3, hr4, a4', hs4', rdList_next hl4' hrd⟩
            have HS5 := Lib.hid hS5
            have HG5 := Lib.hid hG5
            have hz5 := hT5.size
            have hbx5 := hbx.trn hT5 (by omega)
            have hb05 := hb0.trn hT5 (by omega)
            have HT5 := Lib.hid (HT.out.trans hT5)
            have hM5 := HM.out.keep (w' := w5) (hT5.keeps.weaken fun p hp hpl => by
              have hp' : X + 1 ≤ p := hp.elim (fun h => h) fun e => (hMl p e).1
              omega)
            have hM6 := hM5.later (Fr.new w5 (.cells #[.int .i64 y.id, .int .i64 y.kind, .string y.text, .slice Ay y.kids.length cy] 25))
            have hR6 : elNd.R (w5.alloc (.cells #[.int .i64 y.id, .int .i64 y.kind, .string y.text, .slice Ay y.kids.length cy] 25)) (fun p => X + 1 ≤ p ∧ (Value.slice Av j cv).ownBlock ≠ some p) y [.int .i64 y.id, .int .i64 y.kind, .string y.text, .slice Ay y.kids.length cy] :=
              (RN.mono hR fun p (hp : wr.heap.size ≤ p) _ => ⟨(by omega : X + 1 ≤ p), fun e => by have := hMl p e; omega⟩).keep (Fr.new _ _).keeps.all
            have hbx6 := hbx5.alloc (.cells #[.int .i64 y.id, .int .i64 y.kind, .string y.text, .slice Ay y.kids.length cy] 25)
            clear f0 f1 hS5 hG5 r1 r2 y1 y2 hR hr hM5 hT5
            obtain ⟨r1, r2⟩ := hbx5.rules
            have hzx5 := hbx5.lt
            go_wp2_with (at_builtin; go_must (refine wpList_append_made elNd (W := w5.alloc (.cells #[.int .i64 y.id, .int .i64 y.kind, .string y.text, .slice Ay y.kids.length cy] 25)) (X + 1) 23 25 _ 56 (X + 1 ≤ ·) rfl (.tmp 77) (.tmp 79) rfl Try.underlying23 info25e rfl (.slice Av j cv) xs y _ rfl rfl (by simp) hM6 hR6 ?c1 ?c2 ?c3 ?_))
            case c1 => simp; omega
            case c2 => rw [Hxl.out]; unfold maxLen; omega
            case c3 => rw [Hxl.out]; omega
            intro v1 w7 hM7 hg7 hat7
            have Hxl7 : Hid ((xs ++ [y]).length = j + 1) := Lib.hid (by rw [List.length_append, Hxl.out]; rfl)
            obtain ⟨A7, c7, rfl, -⟩ := hM7.sliceN Hxl7.out
            have hF6 : Fr w5 (w5.alloc (.cells #[.int .i64 y.id, .int .i64 y.kind, .string y.text, .slice Ay y.kids.length cy] 25)) := Fr.new _ _
            have hK7 : Keeps (· < X + 1) w5 w7 := fun p hp hpl => (hg7.block p (Nat.lt_of_lt_of_le hpl hF6.size) (fun e => by have := hMl p e.symm; omega)).trans (hF6.block p hpl)
            have hz7 : w5.heap.size ≤ w7.heap.size := Nat.le_trans hF6.size hg7.size
            have hbx7 := hbx5.keep hK7 (by omega)
            have hb07 := hb05.keep hK7 (by omega)
            have HT7 : Hid (Trn (· = q) w w7) := Lib.hid ((HT5.out.trans (Trn.of_fr hF6)).own hg7 (fun p hp => by have := hMl p hp; omega))
            have HS7 : Hid (RfSt w7 q B bs m5 st5) := Lib.hid (HS5.out.keepB (hK7.weaken fun p hp _ => by omega) hz7)
            have HM7 := Lib.hid (hM7.mono (T' := (X + 1 ≤ ·)) fun p hp _ => hp.1)
            have hM7l := hM7.lt
            clear hM7 hg7 hat7 hK7 hF6 hM6 hR6 r1 r2 hbx6
            obtain ⟨r1, r2⟩ := hbx7.rules
            have hzx7 := hbx7.lt
            go_wp2
            go_roundw
            case rel =>
              refine ⟨j + 1, _, xs ++ [y], st5, m5, by omega, by go_num, HM7.out.keep ((Keeps.refl _ w7).set ?_ 3 _), Lib.hid (HT7.out.set (.inr (by omega)) 3 _), Lib.hid (HS7.out.keepB ((Keeps.refl _ w7).set (by omega) 3 _) (by simp)), hb07.far (by omega) 3 _, hbx7.set 3 _, Hxl7, HG5⟩
              rintro (h | h)
              · omega
              · have := hM7l X h; omega
            case measure => simp [intOf]; omega
          · obtain rfl : j = k := by omega
            have HE := Lib.hid (hend (.ok (⟨id, kind, text, xs⟩, (a', m'))) ⟨rfl, rfl, HS.out, hm2⟩ (by
              show _ = rdNode bs (f + 1) (a, m)
              rw [HG2.out]
              simp only [Int.toNat_natCast, Hl4.out]) _ rfl)
            clear hend
            have hb2 := (((hb0.set 0 (.int .i64 id)).set 1 (.int .i64 kind)).set 2 (.string text)).set 3 (.slice Av j cv)
            go_wp2
            obtain ⟨q0, -⟩ := hb2.rules
            exact bodyPost_ret (v := .agg #[.int .i64 id, .int .i64 kind, .string text, .slice Av j cv]) (by simp [results, Try.results108, go_sem, q0]) rfl HE.out
end Go.Proofs.Ytbhmpbaembmlnaa
