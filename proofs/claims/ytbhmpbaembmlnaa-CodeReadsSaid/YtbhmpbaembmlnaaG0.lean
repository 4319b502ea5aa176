/- Bytes of one's own: code.own, code.number, code.text; New. -/
import Derived.Test.YtbhmpbaembmlnaaF7
import Derived.Lib.AppendStr
import Derived.Lib.AppendZeros
set_option linter.unusedVariables false
namespace Go.Proofs.Ytbhmpbaembmlnaa
open Go.RowKit

def IsByte (x : Int) : Prop := 0 ≤ x ∧ x ≤ 255
/-- Bytes of one's own, in a block from base on. -/
def OwnB (w : World) (base : Nat) (v : Value) (bs : List Int) : Prop := w.ownsRow base 5 1 v bs.length (bs.map (Value.int .u8)) ∧ ∀ x ∈ bs, IsByte x

theorem OwnB.nil (w : World) (base : Nat) : OwnB w base (.slice none 0 0) [] := ⟨World.ownsRow_nil _ _ _ _, fun x h => by cases h⟩
theorem OwnB.slice {w : World} {base : Nat} {v : Value} {bs : List Int} (h : OwnB w base v bs) : ∃ A cap, v = .slice A bs.length cap ∧ bs.length ≤ cap := by
  obtain ⟨A, cap, hv, hc, -⟩ := ownsRow_slice h.1
  exact ⟨A, cap, hv, hc⟩
theorem OwnB.lt {w : World} {base : Nat} {v : Value} {bs : List Int} (h : OwnB w base v bs) : ∀ k, v.ownBlock = some k → base ≤ k ∧ k < w.heap.size := h.1.lt
theorem OwnB.keep {w w' : World} {base : Nat} {v : Value} {bs : List Int} (h : OwnB w base v bs) (hk : Keeps (base ≤ ·) w w') : OwnB w' base v bs :=
  ⟨ownsRow_keep h.1 fun k hk1 hk2 => hk k (h.lt k hk1).1 hk2, h.2⟩
theorem OwnB.rebase {w : World} {base base' : Nat} {v : Value} {bs : List Int} (h : OwnB w base v bs) (hb : base' ≤ base) : OwnB w base' v bs := by
  refine ⟨⟨h.1.1, ?_⟩, h.2⟩
  rcases h.1.2 with h | ⟨g, cap, cur, hv, h0, r⟩
  · exact .inl h
  · exact .inr ⟨g, cap, cur, hv, Nat.le_trans hb h0, r⟩
theorem OwnB.reads {w : World} {base : Nat} {v : Value} {bs : List Int} (h : OwnB w base v bs) : Sl elB w (base ≤ ·) v bs := by
  obtain ⟨A, cap, hv, hcap, hA⟩ := ownsRow_slice h.1
  refine ⟨A, cap, hv, hcap, fun hn => ?_⟩
  obtain ⟨g, rfl, hg⟩ := hA (fun e => hn (List.eq_nil_of_length_eq_zero e))
  refine ⟨g, 0, rfl, (h.lt g hg).1, (h.lt g hg).2, fun j x hx => ⟨[.int .u8 x], fun i u hu => ?_, rfl, ?_⟩⟩
  · match i, hu with
    | 0, hu =>
      injection hu with hu; subst hu
      have := h.1.cells hg j (.int .u8 x) (by simp [hx])
      rw [add_plain] at this
      rw [show 0 + j * elB.size + 0 = 0 + j by show 0 + j * 1 + 0 = _; omega]
      exact this
    | i + 1, hu => simp at hu
  · have := h.2 x (List.mem_of_getElem? hx)
    exact WalkArith.wf_u8 this

theorem info5 : (Try.prog.info? 5).map (fun i => (i.zero, i.size, i.bytes)) = some (some (.int .u8 0), 1, 1) := by kernel_rfl

theorem run_append_none (w : World) (t ty e : TypeId) (i : TypeInfo) (ht : Try.prog.underlying t = some (.slice e)) (hi : Try.prog.info? e = some i) (A B : Option Addr) (n cap c : Nat) (h : n ≤ cap) :
    (Builtin.append_ #[t, t] ty #[.slice A n cap, .slice B 0 c]).run Try.prog w = .ok (.slice A n cap) w := by
  cases A <;> cases B <;> simp [Builtin.append_, run_underlying ht, sizeOf, typeInfo, hi, Builtin.lenOf, Builtin.firstCells, loadCells, loadCellsFrom, h, storeCells]

/-- append(v, u): v bytes of one's own. -/
theorem run_append_bytes {w : World} (ty : TypeId) {base : Nat} {v u : Value} {bs cs : List Int} {S : Nat → Prop} (hv : OwnB w base v bs) (hu : Sl elB w S u cs) (hn : bs.length + cs.length ≤ 1000000000) (hb : base ≤ w.heap.size) :
    ∃ v1 w1, (Builtin.append_ #[36, 36] ty #[v, u]).run Try.prog w = .ok v1 w1 ∧ OwnB w1 base v1 (bs ++ cs) ∧ Below base w w1 := by
  obtain ⟨i, hi, hzz⟩ := Option.map_eq_some_iff.1 info5
  simp only [Prod.mk.injEq] at hzz
  obtain ⟨hz0, hz1, hz2⟩ := hzz
  obtain ⟨B, c, rfl, hc, hr⟩ := hu
  by_cases hne : cs = []
  · subst hne
    obtain ⟨A, cap, rfl, hcap⟩ := hv.slice
    exact ⟨_, w, run_append_none w 36 ty 5 i Try.underlying36 hi A B _ cap c hcap, by simpa using hv, Below.refl _ _⟩
  · obtain ⟨g2, off2, rfl, -⟩ := hr hne
    have hbytes : ∀ x ∈ cs, IsByte x := fun x hx => by
      obtain ⟨j, hj, rfl⟩ := List.mem_iff_getElem.1 hx
      have := row_byte hr (List.getElem?_eq_getElem hj)
      exact this.2
    obtain ⟨v2, w2, hrun, hown, hg, -, -⟩ := run_append_own_at (P := Try.prog) w base 36 ty 5 i _ 1 1 Try.underlying36 hi hz0 hz1 hz2 rfl (by decide) v bs.length _ hv.1 ⟨g2, off2, none⟩ cs.length c (cs.map (Value.int .u8)) (by simp) (fun j u hj => by
      rw [add_plain]
      simp only [List.getElem?_map, Option.map_eq_some_iff] at hj
      obtain ⟨x, hx, rfl⟩ := hj
      exact (row_byte hr hx).1) (by intro u hu; obtain ⟨x, _, rfl⟩ := List.mem_map.1 hu; rfl) (by unfold maxLen; omega) (by omega) hb
    refine ⟨v2, w2, hrun, ⟨by simpa using hown, fun x hx => ?_⟩, (Below.refl base w).grown hg hb (fun k hk => (hv.lt k hk).1)⟩
    rcases List.mem_append.1 hx with h | h
    · exact hv.2 x h
    · exact hbytes x h

set_option maxRecDepth 100000 in
set_option maxHeartbeats 1000000 in
theorem cOwn (bs : List Int) (v : Value) (w : World) (h : SlT elB w v bs) (hl : bs.length ≤ 1000000000) :
    Calls Try.prog 98 #[v] w fun e w' => ∃ v', e = .returned v' ∧ OwnB w' w.heap.size v' bs ∧ Fr w w' := by
  obtain ⟨v1, w1, hrun, hown, hb⟩ := run_append_bytes (w := w) 36 (OwnB.nil w w.heap.size) h (by simpa using hl) (Nat.le_refl _)
  rw [List.nil_append] at hown
  have HR := Lib.hid hrun
  have HO := Lib.hid hown
  have HB := Lib.hid hb
  have h0 := h
  obtain ⟨A, cap, rfl, -⟩ := h0
  clear hrun hown hb h
  go_enter Try.func98, Try.ntmps98
  go_wp2_with (at_builtin; go_must (refine Go.Lib.wpList_append_run _ rfl _ (.tmp 3) 36 36 rfl _ _ rfl rfl _ _ HR.out ?_))
  obtain ⟨A', cap', rfl, -⟩ := HO.out.slice
  go_wp2
  go_ret
  exact ⟨_, rfl, HO.out, HB.out⟩

set_option maxRecDepth 100000 in
set_option maxHeartbeats 1000000 in
theorem cNew (bs : List Int) (v : Value) (w : World) (h : SlT elB w v bs) (hl : bs.length ≤ 1000000) :
    Calls Try.prog 26 #[v] w fun e w' => ∃ p B, e = .returned (.pointer (some ⟨p, 0, none⟩)) ∧ PubAt w' p B bs (.ok 0) ∧ w.heap.size ≤ p ∧ Fr w w' := by
  have H := Lib.hid h
  have h0 := h
  obtain ⟨A, cap, rfl, -⟩ := h0
  clear h
  go_enter Try.func26, Try.ntmps26
  go_wp2_with fail
  refine (cOwn bs _ w H.out (by omega)).mono ?_
  rintro e w1 ⟨v1, rfl, hO, hF⟩
  have hS := hO.reads
  obtain ⟨A1, cap1, rfl, hcap1, hrow⟩ := hS
  have HO := Lib.hid hO
  have HF := Lib.hid hF
  have HR := Lib.hid hrow
  clear hO hF hrow
  go_wp2
  go_ret
  have hFr : Fr w1 (w1.alloc (.cells #[.slice A1 bs.length cap1, .int .i64 0, .int .i64 (-1)] 119)) := Fr.new _ _
  refine ⟨w1.heap.size, w1.heap.size + 1, rfl, ⟨A1, cap1, Blk.new w1 [.slice A1 bs.length cap1, .int .i64 0, .int .i64 (-1)] 119, hcap1, ?_, Nat.zero_le _, hl, Nat.lt_succ_self _, by simp⟩, HF.out.size, HF.out.trans hFr⟩
  exact ((HR.out.mono (S' := fun k => k < w1.heap.size) fun k hk hl => hl).keep hFr.keeps.all hFr.size).mono fun k hk _ => ⟨by omega, by omega⟩

set_option maxRecDepth 100000 in
set_option maxHeartbeats 1000000 in
theorem rNew (bs : List Int) (v : Value) (w : World) (h : SlT elB w v bs) (hl : bs.length ≤ 1000000) :
    Calls Try.prog 27 #[v] w fun e w' => ∃ q B, e = .returned (.pointer (some ⟨q, 0, none⟩)) ∧ RfSt w' q B bs 0 (.ok 0) ∧ w.heap.size ≤ q ∧ Fr w w' := by
  obtain ⟨A, cap, rfl, hcap, hrow⟩ := h
  have HR := Lib.hid hrow
  clear hrow
  go_enter Try.func27, Try.ntmps27
  go_wp2
  go_ret
  have hFr : Fr w (w.alloc (.cells #[.slice A bs.length cap, .int .i64 0, .int .i64 (-1), .int .i64 0] 121)) := Fr.new _ _
  refine ⟨w.heap.size, w.heap.size + 1, rfl, ⟨A, cap, Blk.new w [.slice A bs.length cap, .int .i64 0, .int .i64 (-1), .int .i64 0] 121, hcap, ?_, Nat.zero_le _, hl, Nat.lt_succ_self _, by simp⟩, Nat.le_refl _, hFr⟩
  exact ((HR.out.mono (S' := fun k => k < w.heap.size) fun k hk hl => hl).keep hFr.keeps.all hFr.size).mono fun k hk _ => ⟨by omega, by omega⟩

/-- A number's bytes. -/
def putByte (n : Int) (k : Nat) : Int := IntKind.u64.wrap n / 2 ^ (56 - 8 * k) % 256
def putNum (n : Int) : List Int := (List.range 8).map (putByte n)
theorem putByte_byte (n : Int) (k : Nat) : IsByte (putByte n k) := by unfold IsByte putByte; omega
theorem putNum_take (n : Int) (k : Nat) (h : k < 8) : (putNum n).take k ++ [putByte n k] = (putNum n).take (k + 1) := by
  have : (putNum n)[k]? = some (putByte n k) := by simp [putNum, h]
  rw [List.take_add_one, this]; rfl
theorem putNum_len (n : Int) : (putNum n).length = 8 := by simp [putNum]

theorem one_byte (w : World) (x : Int) (h : IsByte x) : SlT elB (w.alloc (.cells #[.int .u8 x] 5)) (.slice (some ⟨w.heap.size, 0, none⟩) 1 1) [x] := by
  refine ⟨_, _, rfl, Nat.le_refl _, fun _ => ⟨w.heap.size, 0, rfl, trivial, by simp, fun j y hy => ?_⟩⟩
  have : j = 0 := by have := get_lt hy; simp at this; omega
  subst this
  simp at hy
  subst hy
  refine ⟨[.int .u8 x], fun i u hu => ?_, rfl, WalkArith.wf_u8 h⟩
  have := (Blk.new w [.int .u8 x] 5).cell i
  rw [hu] at this
  simpa using this

set_option maxRecDepth 100000 in
set_option maxHeartbeats 1000000 in
theorem cPutNumber (n : Int) (bs : List Int) (base : Nat) (v : Value) (w : World) (h : OwnB w base v bs) (hb : base ≤ w.heap.size) (hl : bs.length ≤ 100000000) :
    Calls Try.prog 137 #[v, .int .i64 n] w fun e w' => ∃ v', e = .returned v' ∧ OwnB w' base v' (bs ++ putNum n) ∧ Below base w w' := by
  obtain ⟨A, cap, rfl, hcap⟩ := h.slice
  have H := Lib.hid h
  clear h
  go_enter Try.func137, Try.ntmps137
  go_wp2_with fail
  go_loopw [0, 6] (fun v i wr => ∃ (k : Nat) (cs : List Int), k ≤ 8 ∧ i = .int .i64 k ∧ Hid (bs ++ (putNum n).take k = cs) ∧ OwnB wr base v cs ∧ Below base w wr) (fun _ i _ => 8 - (intOf i).toNat)
  case atStart => exact ⟨0, bs, by omega, rfl, Lib.hid (by simp), H.out, Below.refl _ _⟩
  case round =>
    obtain ⟨k, cs, hk, rfl, Hcs, hO, hB⟩ := hrel
    obtain ⟨A', cap', rfl, hcap'⟩ := hO.slice
    have hcl : cs.length ≤ 100000008 := by
      have h1 := congrArg List.length Hcs.out
      rw [List.length_append, List.length_take, putNum_len] at h1
      omega
    have HO := Lib.hid hO
    have HB := Lib.hid hB
    clear hO hB
    by_cases hlt : k < 8
    · have hzb := HB.out.size
      obtain ⟨v1, w1, hrun, hown, hbl⟩ := run_append_bytes (w := wr.alloc (.cells #[.int .u8 (IntKind.u64.wrap n / 2 ^ (56 - 8 * k) % 256)] 5)) 36 (HO.out.keep (Fr.new wr (.cells #[.int .u8 (IntKind.u64.wrap n / 2 ^ (56 - 8 * k) % 256)] 5)).keeps.all) (one_byte wr _ (putByte_byte n k)) (by simp; omega) (by simp; omega)
      have HR := Lib.hid hrun
      have Hcs1 : Hid (bs ++ (putNum n).take (k + 1) = cs ++ [putByte n k]) := Lib.hid (by rw [← putNum_take n k hlt, ← List.append_assoc, Hcs.out])
      have hown' : OwnB w1 base v1 (cs ++ [putByte n k]) := hown
      obtain ⟨cs1, hcs1⟩ : ∃ l, cs ++ [putByte n k] = l := ⟨_, rfl⟩
      rw [hcs1] at hown' Hcs1
      have HO1 := Lib.hid hown'
      have HB1 : Hid (Below base w w1) := Lib.hid (HB.out.trans ((Below.alloc (Below.refl base wr) (by omega) _).trans hbl))
      obtain ⟨A1, cap1, rfl, -⟩ := hown'.slice
      clear hrun hown hbl hown' hcs1
      go_wp2_with (at_builtin; go_must (refine Go.Lib.wpList_append_run _ rfl (.tmp 9) (.tmp 17) 36 36 rfl _ _ rfl rfl _ _ HR.out ?_))
      go_wp2
      go_roundw
      case rel => exact ⟨k + 1, cs1, by omega, by go_num, Hcs1, HO1.out, HB1.out⟩
      case measure => simp [intOf]; omega
    · obtain rfl : k = 8 := by omega
      have HE : Hid (bs ++ putNum n = cs) := Lib.hid (by rw [← Hcs.out, List.take_of_length_le (Nat.le_of_eq (putNum_len n))])
      go_wp2
      go_ret
      rw [HE.out]
      exact ⟨_, rfl, HO.out, HB.out⟩

/-- A text's bytes. -/
def putStr (s : ByteArray) : List Int := s.data.toList.map fun b => (b.toNat : Int)
theorem putStr_len (s : ByteArray) : (putStr s).length = s.size := by unfold putStr; rw [List.length_map]; rfl
theorem putStr_byte (s : ByteArray) : ∀ x ∈ putStr s, IsByte x := by
  intro x hx
  obtain ⟨b, -, rfl⟩ := List.mem_map.1 hx
  have := b.toNat_lt
  unfold IsByte; omega

set_option maxRecDepth 100000 in
set_option maxHeartbeats 1000000 in
theorem cPutText (s : ByteArray) (bs : List Int) (base : Nat) (v : Value) (w : World) (h : OwnB w base v bs) (hb : base ≤ w.heap.size) (hl : bs.length ≤ 100000000) (hs : s.size ≤ 100000000) :
    Calls Try.prog 139 #[v, .string s] w fun e w' => ∃ v', e = .returned v' ∧ OwnB w' base v' (bs ++ (putNum s.size ++ putStr s)) ∧ Below base w w' := by
  obtain ⟨A, cap, rfl, hcap⟩ := h.slice
  have H := Lib.hid h
  clear h
  go_enter Try.func139, Try.ntmps139
  go_wp2_with fail
  refine (cPutNumber s.size bs base _ _ H.out hb hl).mono ?_
  rintro e w1 ⟨v1, rfl, hO, hB⟩
  obtain ⟨b1, hb1⟩ : ∃ l, bs ++ putNum s.size = l := ⟨_, rfl⟩
  rw [hb1] at hO
  have hl1 : b1.length = bs.length + 8 := by rw [← hb1, List.length_append, putNum_len]
  obtain ⟨A1, cap1, rfl, hcap1⟩ := hO.slice
  obtain ⟨i, hi, hzz⟩ := Option.map_eq_some_iff.1 info5
  simp only [Prod.mk.injEq] at hzz
  obtain ⟨hz0, hz1, hz2⟩ := hzz
  have hbz := hB.size
  obtain ⟨v2, w2, hrun, hown, hg, -⟩ := Go.Lib.run_append_own_string (P := Try.prog) w1 base 36 9 36 5 i Try.underlying36 Try.underlying9 hi hz0 hz1 hz2 _ _ _ hO.1 s (by unfold maxLen; omega) (by omega) (by omega)
  have HR := Lib.hid hrun
  have hO2 : OwnB w2 base v2 (bs ++ (putNum s.size ++ putStr s)) := by
    rw [← List.append_assoc, hb1]
    have e1 : b1.length + s.size = (b1 ++ putStr s).length := by rw [List.length_append, putStr_len]
    have e2 : b1.map (Value.int .u8) ++ Go.Lib.strCells s = (b1 ++ putStr s).map (Value.int .u8) := by
      rw [List.map_append]; congr 1; simp only [Go.Lib.strCells, putStr, List.map_map]; rfl
    rw [e1, e2] at hown
    refine ⟨hown, fun x hx => ?_⟩
    rcases List.mem_append.1 hx with hx | hx
    · exact hO.2 x hx
    · exact putStr_byte s x hx
  obtain ⟨b2, hb2⟩ : ∃ l, bs ++ (putNum s.size ++ putStr s) = l := ⟨_, rfl⟩
  rw [hb2] at hO2
  have Hb2 := Lib.hid hb2
  have HO2 := Lib.hid hO2
  have HB2 : Hid (Below base w w2) := Lib.hid (hB.trans ((Below.refl base w1).grown hg (by omega) (fun k hk => (hO.lt k hk).1)))
  obtain ⟨A2, cap2, rfl, -⟩ := hO2.slice
  clear hrun hown hg hO2 hO hB hb1 hb2 hl1
  go_wp2_with (at_builtin; go_must (refine Go.Lib.wpList_append_run _ rfl (.tmp 8) (.tmp 9) 36 9 rfl _ _ rfl rfl _ _ HR.out ?_))
  go_wp2
  go_ret
  rw [Hb2.out]
  exact ⟨_, rfl, HO2.out, HB2.out⟩

set_option maxRecDepth 100000 in
set_option maxHeartbeats 1000000 in
theorem cText64 (s : ByteArray) (bs : List Int) (v : Value) (w : World) (h : SlT elB w v bs) (hl : bs.length ≤ 1000000) (hs : s.size ≤ 1000000) :
    Calls Try.prog 64 #[v, .string s] w fun e w' => ∃ v', e = .returned v' ∧ OwnB w' w.heap.size v' (bs ++ (putNum s.size ++ putStr s)) ∧ Fr w w' := by
  have H := Lib.hid h
  have h0 := h
  obtain ⟨A, cap, rfl, -⟩ := h0
  clear h
  go_enter Try.func64, Try.ntmps64
  go_wp2_with fail
  refine (cOwn bs _ _ H.out (by omega)).mono ?_
  rintro e w1 ⟨v1, rfl, hO, hF⟩
  have HO := Lib.hid hO
  have HF := Lib.hid hF
  obtain ⟨A1, cap1, rfl, -⟩ := hO.slice
  clear hO hF
  go_wp2_with fail
  refine (cPutText s bs w.heap.size _ _ HO.out HF.out.size (by omega) (by omega)).mono ?_
  rintro e w2 ⟨v2, rfl, hO, hB⟩
  obtain ⟨b2, hb2⟩ : ∃ l, bs ++ (putNum s.size ++ putStr s) = l := ⟨_, rfl⟩
  rw [hb2] at hO
  have Hb2 := Lib.hid hb2
  have HO2 := Lib.hid hO
  have HB2 := Lib.hid (Below.trans HF.out hB)
  obtain ⟨A2, cap2, rfl, -⟩ := hO.slice
  clear hO hB hb2
  go_wp2
  go_ret
  rw [Hb2.out]
  exact ⟨_, rfl, HO2.out, HB2.out⟩
end Go.Proofs.Ytbhmpbaembmlnaa
