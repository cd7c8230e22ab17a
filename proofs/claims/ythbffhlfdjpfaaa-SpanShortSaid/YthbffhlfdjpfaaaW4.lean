/- The library's stable sort of steps, as far as that it only changes their order. -/
import Derived.Test.YthbffhlfdjpfaaaW3
import Derived.BigRegion
namespace Go.Proofs.Ythbffhlfdjpfaaa
set_option linter.unusedVariables false
set_option linter.unusedSimpArgs false
open Go.RowKit

/-- block b begins with the steps l, then other cells -/
def StB (w : World) (b : Nat) (l : List Stp) (tl : List Value) : Prop := Blk w b 102 (encS l ++ tl)
theorem StB.cell0 {w : World} {b : Nat} {l : List Stp} {tl : List Value} (h : StB w b l tl) {i : Nat} (hi : i < l.length) : w.cell? ⟨b, i * 2, none⟩ = some (.int .i64 ((stp l i).arc : Int)) := by
  refine Blk.cell h _ ?_
  rw [List.getElem?_append_left (by rw [encS_len]; omega)]
  exact (encS_get l i hi).1
theorem StB.cell1 {w : World} {b : Nat} {l : List Stp} {tl : List Value} (h : StB w b l tl) {i : Nat} (hi : i < l.length) : w.cell? ⟨b, i * 2 + 1, none⟩ = some (.bool (stp l i).back) := by
  refine Blk.cell h _ ?_
  rw [List.getElem?_append_left (by rw [encS_len]; omega)]
  exact (encS_get l i hi).2
theorem encS_set (l : List Stp) (i : Nat) (hi : i < l.length) (s : Stp) : ((encS l).set (i * 2) (.int .i64 (s.arc : Int))).set (i * 2 + 1) (.bool s.back) = encS (l.set i s) := by
  induction l generalizing i with
  | nil => simp at hi
  | cons x l ih =>
    cases i with
    | zero => simp [encS]
    | succ i =>
      have e : ∀ y : Stp, ∀ m, encS (y :: m) = .int .i64 (y.arc : Int) :: .bool y.back :: encS m := fun _ _ => rfl
      rw [List.set_cons_succ, e, e, show (i + 1) * 2 = i * 2 + 1 + 1 by omega]
      simp only [List.set_cons_succ, List.cons.injEq, true_and]
      exact ih i (by simpa using hi)
theorem StB.put {w : World} {b : Nat} {l : List Stp} {tl : List Value} (h : StB w b l tl) {i : Nat} (hi : i < l.length) (s : Stp) : StB ((w.setCell ⟨b, i * 2, none⟩ (.int .i64 (s.arc : Int))).setCell ⟨b, i * 2 + 1, none⟩ (.bool s.back)) b (l.set i s) tl := by
  have h2 := (Blk.set h (i * 2) (.int .i64 (s.arc : Int))).set (i * 2 + 1) (.bool s.back)
  have hl := encS_len l
  rw [List.set_append_left _ _ (by omega), List.set_append_left _ _ (by rw [List.length_set]; omega), encS_set l i hi] at h2
  exact h2
def swp (l : List Stp) (i j : Nat) : List Stp := (l.set i (stp l j)).set j (stp l i)
theorem swp_len (l : List Stp) (i j : Nat) : (swp l i j).length = l.length := by simp [swp]
theorem swp_perm (l : List Stp) {i j : Nat} (hi : i < l.length) (hj : j < l.length) : (swp l i j).Perm l := by
  have e : swp l i j = (l.set i l[j]).set j l[i] := by simp [swp, stp, List.getD_eq_getElem?_getD, List.getElem?_eq_getElem hi, List.getElem?_eq_getElem hj]
  rw [e]
  exact List.set_set_perm hi hj

theorem StB.swap {w : World} {b : Nat} {l : List Stp} {tl : List Value} (h : StB w b l tl) {i j : Nat} (hi : i < l.length) (hj : j < l.length) :
    StB ((((w.setCell ⟨b, i * 2, none⟩ (.int .i64 ((stp l j).arc : Int))).setCell ⟨b, i * 2 + 1, none⟩ (.bool (stp l j).back)).setCell ⟨b, j * 2, none⟩ (.int .i64 ((stp l i).arc : Int))).setCell ⟨b, j * 2 + 1, none⟩ (.bool (stp l i).back)).drew b (swp l i j) tl := by
  have h1 := h.put hi (stp l j)
  exact StB.put h1 (by simpa using hj) (stp l i)
theorem fr_four {w : World} {b i1 i2 i3 i4 : Nat} {u1 u2 u3 u4 : Value} {w0 : World} (h : Fr (OneB b) w0 w) : Fr (OneB b) w0 ((((w.setCell ⟨b, i1, none⟩ u1).setCell ⟨b, i2, none⟩ u2).setCell ⟨b, i3, none⟩ u3).setCell ⟨b, i4, none⟩ u4).drew :=
  ((((h.setCell (p := ⟨b, i1, none⟩) (.inl rfl) _).setCell (p := ⟨b, i2, none⟩) (.inl rfl) _).setCell (p := ⟨b, i3, none⟩) (.inl rfl) _).setCell (p := ⟨b, i4, none⟩) (.inl rfl) _).drew

set_option maxHeartbeats 400000 in
theorem cmp_calls (s t : Stp) (w : World) (hs : s.arc < 1000) (ht : t.arc < 1000) : Calls Try.prog 128 #[.agg #[.int .i64 (s.arc : Int), .bool s.back], .agg #[.int .i64 (t.arc : Int), .bool t.back]] w fun e w' => e = .returned (.int .i64 ((s.arc : Int) - (t.arc : Int))) ∧ Below w.heap.size w w' := by
  go_enter Try.func128, Try.ntmps128
  go_wp2
  go_ret
  exact ⟨rfl, two_new⟩

set_option maxRecDepth 10000 in
set_option maxHeartbeats 1000000 in
theorem swapRange_calls {w : World} {bk : Nat} {l : List Stp} {tl : List Value} (c a b n : Nat) (F : Value) (hB : StB w bk l tl) (hl : l.length ≤ 1000) (ha : a + n ≤ l.length) (hb : b + n ≤ l.length) (hab : a + n ≤ b) :
    Calls Try.prog 155 #[.slice (some ⟨bk, 0, none⟩) l.length c, .int .i64 (a : Int), .int .i64 (b : Int), .int .i64 (n : Int), F] w fun e w' => e = .returned (.tuple #[]) ∧ (∃ l', l'.Perm l ∧ StB w' bk l' tl) ∧ Fr (OneB bk) w w' := by
  have HB := Lib.hid hB
  clear hB
  go_enter Try.func155, Try.ntmps155
  go_wp2
  go_loopw [10] (fun i wr => ∃ (k : Nat) (l' : List Stp), k ≤ n ∧ i = .int .i64 k ∧ l'.Perm l ∧ StB wr bk l' tl ∧ Fr (OneB bk) w wr) (fun i _ => n - (intOf i).toNat)
  case atStart => exact ⟨0, l, Nat.zero_le _, rfl, List.Perm.refl _, HB.out, Fr.refl _ _⟩
  case round =>
    obtain ⟨k, l', hk, rfl, hp, hB, hF⟩ := hrel
    have hlen := hp.length_eq
    by_cases hlt : k < n
    · have a0 := hB.cell0 (i := a + k) (by omega)
      have a1 := hB.cell1 (i := a + k) (by omega)
      have b0 := hB.cell0 (i := b + k) (by omega)
      have b1 := hB.cell1 (i := b + k) (by omega)
      have fr := fun i => Blk.free hB i
      have hbk := Blk.lt hB
      have f0 := fr ((a + k) * 2)
      have f1 := fr ((a + k) * 2 + 1)
      have f2 := fr ((b + k) * 2)
      have f3 := fr ((b + k) * 2 + 1)
      clear fr
      have HP := Lib.hid hp
      have HL := Lib.hid hlen
      have HBB := Lib.hid hB
      clear hp hlen hB
      go_wp2
      go_region
      go_wp2
      go_roundw
      case rel => exact ⟨k + 1, _, by omega, by go_num, (swp_perm l' (by rw [HL.out]; omega) (by rw [HL.out]; omega)).trans HP.out, HBB.out.swap (by rw [HL.out]; omega) (by rw [HL.out]; omega), fr_four hF⟩
      case measure => simp [intOf]; omega
    · go_wp2
      go_end0
      exact ⟨rfl, ⟨l', hp, hB⟩, hF⟩

/-- what a piece of the sort does: the steps stand in some order, nothing else has turned -/
def Pm (w w' : World) (bk : Nat) (l : List Stp) (tl : List Value) : Prop := (∃ l', l'.Perm l ∧ StB w' bk l' tl) ∧ Fr (OneB bk) w w'
theorem Pm.step {w w1 w2 : World} {bk : Nat} {l l1 : List Stp} {tl : List Value} (hp : l1.Perm l) (hf : Fr (OneB bk) w w1) (h : Pm w1 w2 bk l1 tl) : ∃ l', l'.Perm l ∧ StB w2 bk l' tl ∧ Fr (OneB bk) w w2 := by
  obtain ⟨⟨l', h1, h2⟩, h3⟩ := h
  exact ⟨l', h1.trans hp, h2, hf.trans h3⟩

theorem swapRange_any {w : World} {bk : Nat} {l : List Stp} {tl : List Value} (n0 c : Nat) (a b n : Int) (F : Value) (hB : StB w bk l tl) (hn0 : l.length = n0) (hl : n0 ≤ 1000) (h0 : 0 ≤ a ∧ 0 ≤ n) (hb : b + n ≤ n0) (hab : a + n ≤ b) :
    Calls Try.prog 155 #[.slice (some ⟨bk, 0, none⟩) n0 c, .int .i64 a, .int .i64 b, .int .i64 n, F] w fun e w' => e = .returned (.tuple #[]) ∧ Pm w w' bk l tl := by
  obtain ⟨a', rfl⟩ := Int.eq_ofNat_of_zero_le h0.1
  obtain ⟨n', rfl⟩ := Int.eq_ofNat_of_zero_le h0.2
  obtain ⟨b', rfl⟩ := Int.eq_ofNat_of_zero_le (show 0 ≤ b by omega)
  subst hn0
  refine (swapRange_calls c a' b' n' F hB hl (by omega) (by omega) (by omega)).mono ?_
  rintro e w' ⟨he, h1, h2⟩
  exact ⟨he, h1, h2⟩

set_option maxRecDepth 10000 in
set_option maxHeartbeats 1000000 in
theorem rotate_calls {w : World} {bk : Nat} {l : List Stp} {tl : List Value} (n0 c a m b : Nat) (F : Value) (hB : StB w bk l tl) (hn0 : l.length = n0) (hl : n0 ≤ 1000) (ham : a < m) (hmb : m < b) (hb : b ≤ n0) :
    Calls Try.prog 152 #[.slice (some ⟨bk, 0, none⟩) n0 c, .int .i64 (a : Int), .int .i64 (m : Int), .int .i64 (b : Int), F] w fun e w' => e = .returned (.tuple #[]) ∧ Pm w w' bk l tl := by
  have HB := Lib.hid hB
  have HN := Lib.hid hn0
  clear hB hn0
  go_enter Try.func152, Try.ntmps152
  go_wp2
  go_loopw [10, 11] (fun i j wr => ∃ (x y : Nat) (l' : List Stp), 1 ≤ x ∧ 1 ≤ y ∧ x + a ≤ m ∧ y + m ≤ b ∧ i = .int .i64 x ∧ j = .int .i64 y ∧ l'.Perm l ∧ StB wr bk l' tl ∧ Fr (OneB bk) w wr) (fun i j _ => (intOf i).toNat + (intOf j).toNat)
  case atStart => exact ⟨m - a, b - m, l, by omega, by omega, by omega, by omega, by congr 1; omega, by congr 1; omega, List.Perm.refl _, HB.out, Fr.refl _ _⟩
  case round =>
    obtain ⟨x, y, l', hx, hy, hxa, hyb, rfl, rfl, hp, hS, hF⟩ := hrel
    have HP := Lib.hid hp
    have HL := Lib.hid (hp.length_eq.trans HN.out)
    have HS := Lib.hid hS
    clear hp hS
    rcases Nat.lt_trichotomy x y with h | h | h
    · have e1 : ((x : Int) != (y : Int)) = true := by rw [bne_iff_ne]; omega
      have e2 : ¬ ((y : Int) < (x : Int)) := by omega
      go_wp2_with (first | (go_at_call 155; refine (swapRange_any n0 c _ _ _ _ HS.out HL.out hl ⟨?c1, ?c2⟩ ?c3 ?c4).mono ?_; (case c1 => omega); (case c2 => omega); (case c3 => omega); (case c4 => omega); rintro e w1 ⟨rfl, hq⟩))
      go_roundw
      case rel =>
        obtain ⟨l2, hp2, hS2, hF2⟩ := Pm.step HP.out hF hq
        exact ⟨x, y - x, l2, by omega, by omega, by omega, by omega, rfl, by congr 1; omega, hp2, hS2, hF2⟩
      case measure => simp [intOf]; omega
    · have e1 : ((x : Int) != (y : Int)) = false := by rw [bne_eq_false_iff_eq]; omega
      go_wp2_with (first | (go_at_call 155; refine (swapRange_any n0 c _ _ _ _ HS.out HL.out hl ⟨?c1, ?c2⟩ ?c3 ?c4).mono ?_; (case c1 => omega); (case c2 => omega); (case c3 => omega); (case c4 => omega); rintro e w1 ⟨rfl, hq⟩))
      go_end0
      obtain ⟨l2, hp2, hS2, hF2⟩ := Pm.step HP.out hF hq
      exact ⟨rfl, ⟨l2, hp2, hS2⟩, hF2⟩
    · have e1 : ((x : Int) != (y : Int)) = true := by rw [bne_iff_ne]; omega
      have e2 : ((y : Int) < (x : Int)) := by omega
      go_wp2_with (first | (go_at_call 155; refine (swapRange_any n0 c _ _ _ _ HS.out HL.out hl ⟨?c1, ?c2⟩ ?c3 ?c4).mono ?_; (case c1 => omega); (case c2 => omega); (case c3 => omega); (case c4 => omega); rintro e w1 ⟨rfl, hq⟩))
      go_roundw
      case rel =>
        obtain ⟨l2, hp2, hS2, hF2⟩ := Pm.step HP.out hF hq
        exact ⟨x - y, y, l2, by omega, by omega, by omega, by omega, by congr 1; omega, rfl, hp2, hS2, hF2⟩
      case measure => simp [intOf]; omega

end Go.Proofs.Ythbffhlfdjpfaaa
