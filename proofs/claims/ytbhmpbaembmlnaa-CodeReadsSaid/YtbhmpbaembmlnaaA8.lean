/- A text put to the first node of an id: normal.texted. -/
import Derived.Test.YtbhmpbaembmlnaaA7
set_option linter.unusedVariables false
namespace Go.Proofs.Ytbhmpbaembmlnaa
open Go.RowKit

theorem flatten_set {α : Type} {m i : Nat} {u : α} (hi : i < m) : ∀ {css : List (List α)} {k : Nat} {c : List α}, (∀ cs ∈ css, cs.length = m) → css[k]? = some c → css.flatten.set (k * m + i) u = (css.set k (c.set i u)).flatten
  | [], _, _, _, h => by simp at h
  | d :: css, 0, c, h, hk => by
    have h0 := h d (by simp)
    simp at hk
    subst hk
    rw [List.flatten_cons, List.set_cons_zero, List.flatten_cons, Nat.zero_mul, Nat.zero_add, List.set_append_left _ _ (by omega)]
  | d :: css, k + 1, c, h, hk => by
    have h0 := h d (by simp)
    rw [List.flatten_cons, List.set_cons_succ, List.flatten_cons, List.set_append_right _ _ (by rw [h0, Nat.succ_mul]; omega), h0,
      show (k + 1) * m + i - m = k * m + i by rw [Nat.succ_mul]; omega, flatten_set hi (fun cs hcs => h cs (by simp [hcs])) (by simpa using hk)]

/-- A kid of one's own tree is turned. -/
theorem OwnT.kidSet {w : World} {S : Nat → Prop} {id kind : Int} {text : ByteArray} {kids : List Nd} {v : Value} {css : List (List Value)} {Fs : Nat → Nat → Prop}
    (hi : (Lit.int .i64 id).wf = true) (hk : (Lit.int .i64 kind).wf = true) (ht : text.size ≤ maxLen) (hlen : kids.length ≤ kidsMax)
    (hrow : w.ownsRow 0 25 4 v kids.length css.flatten) (hcl : css.length = kids.length)
    (hr : ∀ (j : Nat) (x : Nd) (cs : List Value), kids[j]? = some x → css[j]? = some cs → OwnT w (Fs j) x cs)
    (hd : ∀ i j k, Fs i k → Fs j k → i = j) (hv : ∀ j k, Fs j k → v.ownBlock ≠ some k) (hS : ∀ j k, Fs j k → S k) (hSv : ∀ k, v.ownBlock = some k → S k)
    {g k cap : Nat} (hg : v = .slice (some ⟨g, 0, none⟩) kids.length cap) {y : Nd} {c : List Value} (hkl : k < kids.length) (hc : css[k]? = some c) {a : Addr} {u : Value}
    (h : (a = ⟨g, k * 4 + 2, none⟩ ∧ OwnT (w.setCell a u) (Fs k) y (c.set 2 u)) ∨ (Fs k a.block ∧ OwnT (w.setCell a u) (Fs k) y c)) :
    OwnT (w.setCell a u) S ⟨id, kind, text, kids.set k y⟩ [.int .i64 id, .int .i64 kind, .string text, v] := by
  have h4 : ∀ cs ∈ css, cs.length = 4 := by
    intro cs hcs
    obtain ⟨j, hj, rfl⟩ := List.mem_iff_getElem.1 hcs
    obtain ⟨x, hx⟩ := get_some (l := kids) (k := j) (by omega)
    exact (hr j x _ hx (List.getElem?_eq_getElem hj)).length
  have hgv : v.ownBlock = some g := by rw [hg]; rfl
  have key : ∀ c', OwnT (w.setCell a u) (Fs k) y c' → (w.setCell a u).ownsRow 0 25 4 v kids.length (css.set k c').flatten → (∀ j, j ≠ k → ¬ Fs j a.block) → OwnT (w.setCell a u) S ⟨id, kind, text, kids.set k y⟩ [.int .i64 id, .int .i64 kind, .string text, v] := by
    intro c' hy hrow' hno
    refine .mk S id kind text (kids.set k y) v (css.set k c') Fs hi hk ht (by simpa using hlen) (by simpa using hrow') (by simp [hcl]) ?_ hd hv hS hSv
    intro j x cs hx hcs
    by_cases hjk : j = k
    · subst hjk
      rw [List.getElem?_set_self (by omega)] at hx hcs
      injection hx with hx; injection hcs with hcs
      subst hx; subst hcs
      exact hy
    · rw [List.getElem?_set_ne (by omega)] at hx hcs
      refine (hr j x cs hx hcs).keep ?_
      intro q hq _
      exact Below.heap_setCell _ _ _ _ (by rintro rfl; exact hno j hjk hq)
  rcases h with ⟨rfl, hy⟩ | ⟨hf, hy⟩
  · refine key _ hy ?_ (fun j _ hF => hv j g hF hgv)
    subst hg
    have := hrow.stored (k * 4 + 2) u
    rw [flatten_set (by decide) h4 hc] at this
    exact this.1
  · refine key _ hy ?_ (fun j hjk hF => hjk (hd j k _ hF hf))
    have : css.set k c = css := by
      apply List.ext_getElem?
      intro j
      by_cases hjk : j = k
      · subst hjk; rw [List.getElem?_set_self (by omega), hc]
      · rw [List.getElem?_set_ne (by omega)]
    rw [this]
    exact ownsRow_keep hrow fun q hq _ => Below.heap_setCell _ _ _ _ (by rintro rfl; exact hv k _ hf hq)

def Texted (t : Nd) (id : Int) (s : ByteArray) (cs : List Value) (g off : Nat) (S : Nat → Prop) (w : World) (e : Ending) (w' : World) : Prop :=
  match t.withText id s with
  | none => e = .returned (.bool false) ∧ w = w'
  | some t' => e = .returned (.bool true) ∧ ∃ a, w' = w.setCell a (.string s) ∧ ((a = ⟨g, off + 2, none⟩ ∧ OwnT w' S t' (cs.set 2 (.string s))) ∨ (S a.block ∧ OwnT w' S t' cs))

set_option maxRecDepth 100000 in
set_option maxHeartbeats 2000000 in
theorem texted (id : Int) (s : ByteArray) (hs : s.size ≤ maxLen) (n : Nat) : ∀ (t : Nd) (cs : List Value) (g off : Nat) (S : Nat → Prop) (w : World), t.ht ≤ n → OwnT w S t cs → CellsAt w g off cs → w.frozen? ⟨g, off + 2, none⟩ = false → ¬ S g →
    Calls Try.prog 158 #[.pointer (some ⟨g, off, none⟩), .int .i64 id, .string s] w (Texted t id s cs g off S w) := by
  induction n with
  | zero => intro t cs g off S w h; have := t.ht_pos; omega
  | succ n ih =>
  intro t cs g off S w hn hO hC hfz hSg
  cases hO with
  | mk _ tid kind text kids v css Fs hi hk ht hlen hrow hcl hr hd hv hS hSv =>
  have c0 : w.cell? ⟨g, off, none⟩ = some (.int .i64 tid) := hC 0 _ rfl
  have c2 : w.cell? ⟨g, off + 2, none⟩ = some (.string text) := hC 2 _ rfl
  have c3 : w.cell? ⟨g, off + 3, none⟩ = some v := hC 3 _ rfl
  obtain ⟨A, cap, rfl, hcap, hA⟩ := ownsRow_slice hrow
  have hk9 : kids.length ≤ 9223372036854775807 := by unfold kidsMax at hlen; omega
  by_cases hid : tid = id
  · have e1 : (tid == id) = true := by simpa using hid
    have hfin : ∀ w', w' = w.setCell ⟨g, off + 2, none⟩ (.string s) → Texted ⟨tid, kind, text, kids⟩ id s [.int .i64 tid, .int .i64 kind, .string text, .slice A kids.length cap] g off S w (.returned (.bool true)) w' := by
      rintro w' rfl
      unfold Texted
      rw [Nd.withText, if_pos hid]
      refine ⟨rfl, _, rfl, .inl ⟨rfl, ?_⟩⟩
      have hKe : Keeps S w (w.setCell ⟨g, off + 2, none⟩ (.string s)) := (Keeps.refl S w).set hSg _ _
      exact .mk S tid kind s kids _ css Fs hi hk hs hlen (ownsRow_keep hrow fun k h1 h2 => hKe k (hSv k h1) h2) hcl (fun j x cs hx hcs => (hr j x cs hx hcs).keep (hKe.weaken fun k h _ => hS j k h)) hd hv hS hSv
    have Hf := Lib.hid hfin
    clear hid hfin hr hd hv hS hSv hrow hC hcl
    go_enter Try.func158, Try.ntmps158
    go_wp2_with fail
    go_ret
    exact Hf.out _ rfl
  · have e1 : (tid == id) = false := by simpa using hid
    have Hid' := Lib.hid hid
    clear hid
    go_enter Try.func158, Try.ntmps158
    go_wp2_with fail
    go_loop [23] (fun i => ∃ k : Nat, k ≤ kids.length ∧ i = .int .i64 k ∧ (∀ (j : Nat) (x : Nd), j < k → kids[j]? = some x → x.withText id s = none)) (fun i => kids.length - (intOf i).toNat)
    case atStart => exact ⟨0, Nat.zero_le _, rfl, fun j x h => absurd h (by omega)⟩
    case round =>
      obtain ⟨k, hkl, rfl, hno⟩ := hrel
      have Hno := Lib.hid hno; clear hno
      by_cases hlt : k < kids.length
      · obtain ⟨x, hx⟩ := get_some hlt
        obtain ⟨c, hc⟩ := get_some (l := css) (k := k) (by omega)
        obtain ⟨gv, rfl, hgv⟩ := hA (by omega)
        have hxO := hr k x c hx hc
        have h4 : ∀ cs ∈ css, cs.length = 4 := by
          intro cs hcs
          obtain ⟨j, hj, rfl⟩ := List.mem_iff_getElem.1 hcs
          obtain ⟨x, hx⟩ := get_some (l := kids) (k := j) (by omega)
          exact (hr j x _ hx (List.getElem?_eq_getElem hj)).length
        have hxC : CellsAt w gv (k * 4) c := by
          intro i u hu
          have hi4 : i < 4 := by
            have := h4 c (List.mem_of_getElem? hc)
            have := get_lt hu
            omega
          have := hrow.cells hgv (k * 4 + i) u (by rw [flatten_get hi4 h4, hc]; exact hu)
          rwa [add_plain, Nat.zero_add] at this
        have hxf := hrow.frozenAt (k * 4 + 2)
        have hxh := Nd.ht_get (t := ⟨tid, kind, text, kids⟩) hx
        have hxih := ih x c gv (k * 4) (Fs k) w (by omega) hxO hxC hxf (fun h => hv k gv h hgv)
        have HX := Lib.hid hxih
        have HSv := Lib.hid (hSv gv hgv)
        have Hkid := Lib.hid (fun (y : Nd) (a : Addr) (u : Value) h => OwnT.kidSet (S := S) (y := y) (a := a) (u := u) hi hk ht hlen hrow hcl hr hd hv hS hSv rfl hlt hc h)
        have Hx := Lib.hid hx
        have HS := Lib.hid (hS k)
        clear hxih hxO hxC hr hd hv hS hSv hrow hC hcl ih hx hc h4 hA hxf
        go_wp2_with fail
        refine HX.out.mono ?_
        intro e w' hT
        unfold Texted at hT
        cases hw : x.withText id s with
        | none =>
          simp only [hw] at hT
          obtain ⟨rfl, rfl⟩ := hT
          have Hw := Lib.hid hw; clear hw
          go_wp2
          go_round
          case rel =>
            refine ⟨k + 1, by omega, by go_num, fun j z hj hz => ?_⟩
            by_cases hjk : j = k
            · subst hjk
              rw [Hx.out] at hz
              injection hz with hz
              subst hz
              exact Hw.out
            · exact Hno.out j z (by omega) hz
          case measure => simp [intOf]; omega
        | some y =>
          simp only [hw] at hT
          obtain ⟨rfl, a, rfl, hcase⟩ := hT
          have Hw := Lib.hid hw; clear hw
          have Hc := Lib.hid hcase; clear hcase
          have hfin : Texted ⟨tid, kind, text, kids⟩ id s [.int .i64 tid, .int .i64 kind, .string text, .slice (some ⟨gv, 0, none⟩) kids.length cap] g off S w (.returned (.bool true)) (w.setCell a (.string s)) := by
            unfold Texted
            rw [Nd.withText, if_neg Hid'.out, withTextL_some Hno.out ⟨x, Hx.out, Hw.out⟩]
            refine ⟨rfl, a, rfl, .inr ⟨?_, Hkid.out y a _ Hc.out⟩⟩
            rcases Hc.out with ⟨rfl, _⟩ | ⟨h, _⟩
            · exact HSv.out
            · exact HS.out _ h
          have Hf := Lib.hid hfin; clear hfin
          go_wp2
          go_ret
          exact Hf.out
      · have hfin : Texted ⟨tid, kind, text, kids⟩ id s [.int .i64 tid, .int .i64 kind, .string text, .slice A kids.length cap] g off S w (.returned (.bool false)) w := by
          unfold Texted
          rw [Nd.withText, if_neg Hid'.out, withTextL_none fun j x hx => Hno.out j x (by have := get_lt hx; omega) hx]
          exact ⟨rfl, rfl⟩
        have Hf := Lib.hid hfin; clear hfin
        clear hr hd hv hS hSv hrow hC hcl ih hA
        go_wp2
        go_ret
        exact Hf.out
end Go.Proofs.Ytbhmpbaembmlnaa
