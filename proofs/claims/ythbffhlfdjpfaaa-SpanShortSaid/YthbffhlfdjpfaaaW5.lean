/- The merge of the library's stable sort only changes the order of steps. -/
import Derived.Test.YthbffhlfdjpfaaaW4
import Derived.Deep.QuietTactic
import Derived.BigQuiet
namespace Go.Proofs.Ythbffhlfdjpfaaa
set_option linter.unusedVariables false
set_option linter.unusedSimpArgs false
open Go.RowKit

/-- on the way: the steps of l0 stand as l', nothing else has turned -/
structure PmI (w w' : World) (bk : Nat) (l0 : List Stp) (tl : List Value) (l' : List Stp) : Prop where
  perm : l'.Perm l0
  st : StB w' bk l' tl
  fr : Fr (OneB bk) w w'
section
variable {w w1 w2 : World} {bk : Nat} {l0 l' l2 : List Stp} {tl : List Value}
theorem PmI.refl (h : StB w bk l0 tl) : PmI w w bk l0 tl l0 := ⟨List.Perm.refl _, h, Fr.refl _ _⟩
theorem PmI.drew (h : PmI w w1 bk l0 tl l') : PmI w w1.drew bk l0 tl l' := ⟨h.perm, h.st, h.fr.drew⟩
theorem PmI.below (h : PmI w w1 bk l0 tl l') (hb : Below w1.heap.size w1 w2) : PmI w w2 bk l0 tl l' := ⟨h.perm, Blk.below h.st hb, h.fr.trans (Fr.of_below hb)⟩
theorem PmI.pm (h : PmI w w1 bk l0 tl l') : Pm w w1 bk l0 tl := ⟨⟨l', h.perm, h.st⟩, h.fr⟩
theorem PmI.then (h : PmI w w1 bk l0 tl l') (hq : Pm w1 w2 bk l' tl) : ∃ l2, PmI w w2 bk l0 tl l2 := by
  obtain ⟨l2, h1, h2, h3⟩ := Pm.step h.perm h.fr hq
  exact ⟨l2, h1, h2, h3⟩
theorem PmI.swap (h : PmI w w1 bk l0 tl l') {i j : Nat} (hi : i < l'.length) (hj : j < l'.length) :
    PmI w ((((w1.setCell ⟨bk, i * 2, none⟩ (.int .i64 ((stp l' j).arc : Int))).setCell ⟨bk, i * 2 + 1, none⟩ (.bool (stp l' j).back)).setCell ⟨bk, j * 2, none⟩ (.int .i64 ((stp l' i).arc : Int))).setCell ⟨bk, j * 2 + 1, none⟩ (.bool (stp l' i).back)).drew bk l0 tl (swp l' i j) :=
  ⟨(swp_perm l' hi hj).trans h.perm, h.st.swap hi hj, fr_four h.fr⟩
theorem PmI.len (h : PmI w w1 bk l0 tl l') : l'.length = l0.length := h.perm.length_eq
theorem PmI.arc (h : PmI w w1 bk l0 tl l') (hbd : ∀ s, s ∈ l0 → s.arc < 1000) {i : Nat} (hi : i < l'.length) : (stp l' i).arc < 1000 := by
  refine hbd _ (h.perm.mem_iff.1 ?_)
  simp [stp, List.getD_eq_getElem?_getD, List.getElem?_eq_getElem hi]
theorem PmI.lt (h : PmI w w1 bk l0 tl l') : bk < w1.heap.size := Blk.lt h.st
/-- the cells of two steps -/
theorem PmI.cells (h : PmI w w1 bk l0 tl l') {i j : Nat} (hi : i < l'.length) (hj : j < l'.length) : w1.cell? ⟨bk, i * 2, none⟩ = some (.int .i64 ((stp l' i).arc : Int)) ∧ w1.cell? ⟨bk, i * 2 + 1, none⟩ = some (.bool (stp l' i).back) ∧
    w1.cell? ⟨bk, j * 2, none⟩ = some (.int .i64 ((stp l' j).arc : Int)) ∧ w1.cell? ⟨bk, j * 2 + 1, none⟩ = some (.bool (stp l' j).back) := ⟨h.st.cell0 hi, h.st.cell1 hi, h.st.cell0 hj, h.st.cell1 hj⟩
theorem PmI.frees (h : PmI w w1 bk l0 tl l') (i j : Nat) : w1.frozen? ⟨bk, i * 2, none⟩ = false ∧ w1.frozen? ⟨bk, i * 2 + 1, none⟩ = false ∧ w1.frozen? ⟨bk, j * 2, none⟩ = false ∧ w1.frozen? ⟨bk, j * 2 + 1, none⟩ = false := ⟨Blk.free h.st _, Blk.free h.st _, Blk.free h.st _, Blk.free h.st _⟩
end

def CmpV : Value := .func (.func 128) #[] #[]

set_option maxRecDepth 10000 in
set_option maxHeartbeats 1000000 in
theorem symMerge_one {w : World} {bk : Nat} {l : List Stp} {tl : List Value} (n0 c a b : Nat) (hB : StB w bk l tl) (hn0 : l.length = n0) (hl : n0 ≤ 1000) (hb : a + 1 < b) (hbn : b ≤ n0) (hbd : ∀ s, s ∈ l → s.arc < 1000) :
    Calls Try.prog 148 #[.slice (some ⟨bk, 0, none⟩) n0 c, .int .i64 (a : Int), .int .i64 ((a : Int) + 1), .int .i64 (b : Int), .func (.func 128) #[] #[]] w fun e w' => e = .returned (.tuple #[]) ∧ Pm w w' bk l tl := by
  have HB := Lib.hid (PmI.refl hB)
  have HN := Lib.hid hn0
  have HD := Lib.hid hbd
  clear hB hn0 hbd
  have e0 : ((a : Int) + 1 - a == 1) = true := by rw [beq_iff_eq]; omega
  go_enter Try.func148, Try.ntmps148
  go_wp2
  go_loopw [10, 11] (fun i j wr => ∃ x y : Nat, a + 1 ≤ x ∧ x ≤ y ∧ y ≤ b ∧ i = .int .i64 x ∧ j = .int .i64 y ∧ Hid (PmI w wr bk l tl l)) (fun i j _ => (intOf j).toNat - (intOf i).toNat)
  case atStart => exact ⟨a + 1, b, by omega, by omega, by omega, by go_num, rfl, HB⟩
  case round =>
    obtain ⟨x, y, hx, hxy, hy, rfl, rfl, hI⟩ := hrel
    by_cases hlt : x < y
    · obtain ⟨h, hh⟩ : ∃ h : Nat, ((x : Int) + (y : Int)) / 2 = (h : Int) := ⟨(x + y) / 2, by omega⟩
      have hxh : x ≤ h := by omega
      have hhy : h < y := by omega
      have hlen := hI.out.len.trans HN.out
      have i0 : (0 : Int) ≤ (h : Int) := by omega
      have i1 : (h : Int) < (n0 : Int) := by omega
      have i2 : (a : Int) < (n0 : Int) := by omega
      have mk : ∀ w', PmI w w' bk l tl l → (w'.cell? ⟨bk, h * 2, none⟩ = some (.int .i64 ((stp l h).arc : Int)) ∧ w'.cell? ⟨bk, h * 2 + 1, none⟩ = some (.bool (stp l h).back) ∧ w'.cell? ⟨bk, a * 2, none⟩ = some (.int .i64 ((stp l a).arc : Int)) ∧ w'.cell? ⟨bk, a * 2 + 1, none⟩ = some (.bool (stp l a).back)) :=
        fun w' h => h.cells (by omega) (by omega)
      have MK := Lib.hid mk
      have HL := Lib.hid hlen
      clear mk hlen
      go_wp2
      go_region_held3 (fun w' => w'.cell? ⟨bk, h * 2, none⟩ = some (.int .i64 ((stp l h).arc : Int)) ∧ w'.cell? ⟨bk, h * 2 + 1, none⟩ = some (.bool (stp l h).back) ∧ w'.cell? ⟨bk, a * 2, none⟩ = some (.int .i64 ((stp l a).arc : Int)) ∧ w'.cell? ⟨bk, a * 2 + 1, none⟩ = some (.bool (stp l a).back)) (first | exact MK.out _ hI.out.drew | exact MK.out _ (hI.out.drew.below hb1))
        (first | (go_at_call 128; refine (cmp_calls (stp l h) (stp l a) _ ?c1 ?c2).mono ?_; (case c1 => exact hI.out.arc HD.out (by rw [HL.out]; omega)); (case c2 => exact hI.out.arc HD.out (by rw [HL.out]; omega)); rintro e w1 ⟨rfl, hb1⟩))
      have HI := Lib.hid (hI.out.drew.below hb1)
      clear hb1 hI
      go_wp2
      · go_roundw
        case rel => exact ⟨h + 1, y, by omega, by omega, hy, by go_num, rfl, HI⟩
        case measure => simp [intOf]; omega
      · go_roundw
        case rel => exact ⟨x, h, hx, by omega, by omega, rfl, rfl, HI⟩
        case measure => simp [intOf]; omega
    · have hxy' : x = y := by omega
      subst hxy'
      go_wp2
      go_loopw [13] (fun k wr => ∃ (z : Nat) (l' : List Stp), z + 1 ≤ x ∧ k = .int .i64 z ∧ Hid (PmI w wr bk l tl l')) (fun k _ => x - (intOf k).toNat)
      case atStart => exact ⟨a, l, by omega, rfl, hI⟩
      case round =>
        obtain ⟨z, l', hz, rfl, hJ⟩ := hrel
        by_cases hzx : z + 1 < x
        · have hlen := hJ.out.len.trans HN.out
          have hbk := hJ.out.lt
          obtain ⟨a0, a1, a2, a3⟩ := hJ.out.cells (i := z) (j := z + 1) (by omega) (by omega)
          obtain ⟨f0, f1, f2, f3⟩ := hJ.out.frees z (z + 1)
          have i0 : (z : Int) < (x : Int) - 1 := by omega
          have HL := Lib.hid hlen
          clear hlen
          go_wp2
          go_region
          go_wp2
          go_roundw
          case rel => exact ⟨z + 1, _, by omega, by go_num, hJ.out.swap (i := z) (j := z + 1) (by rw [HL.out]; omega) (by rw [HL.out]; omega)⟩
          case measure => simp [intOf]; omega
        · have i0 : ¬ (z : Int) < (x : Int) - 1 := by omega
          go_wp2
          refine bodyPost_ret (results_none rfl _ _ _) rfl ?_
          exact ⟨rfl, hJ.out.pm⟩

set_option maxRecDepth 10000 in
set_option maxHeartbeats 1000000 in
theorem symMerge_last {w : World} {bk : Nat} {l : List Stp} {tl : List Value} (n0 c a m : Nat) (hB : StB w bk l tl) (hn0 : l.length = n0) (hl : n0 ≤ 1000) (hb : a + 1 < m) (hbn : m + 1 ≤ n0) (hbd : ∀ s, s ∈ l → s.arc < 1000) :
    Calls Try.prog 148 #[.slice (some ⟨bk, 0, none⟩) n0 c, .int .i64 (a : Int), .int .i64 (m : Int), .int .i64 ((m : Int) + 1), .func (.func 128) #[] #[]] w fun e w' => e = .returned (.tuple #[]) ∧ Pm w w' bk l tl := by
  have HB := Lib.hid (PmI.refl hB)
  have HN := Lib.hid hn0
  have HD := Lib.hid hbd
  clear hB hn0 hbd
  have e0 : ((m : Int) - a == 1) = false := by rw [beq_eq_false_iff_ne]; omega
  have e1 : ((m : Int) + 1 - m == 1) = true := by rw [beq_iff_eq]; omega
  go_enter Try.func148, Try.ntmps148
  go_wp2
  go_loopw [14, 15] (fun i j wr => ∃ x y : Nat, a ≤ x ∧ x ≤ y ∧ y ≤ m ∧ i = .int .i64 x ∧ j = .int .i64 y ∧ Hid (PmI w wr bk l tl l)) (fun i j _ => (intOf j).toNat - (intOf i).toNat)
  case atStart => exact ⟨a, m, by omega, by omega, by omega, rfl, rfl, HB⟩
  case round =>
    obtain ⟨x, y, hx, hxy, hy, rfl, rfl, hI⟩ := hrel
    by_cases hlt : x < y
    · obtain ⟨h, hh⟩ : ∃ h : Nat, ((x : Int) + (y : Int)) / 2 = (h : Int) := ⟨(x + y) / 2, by omega⟩
      have hxh : x ≤ h := by omega
      have hhy : h < y := by omega
      have hlen := hI.out.len.trans HN.out
      have i0 : (0 : Int) ≤ (h : Int) := by omega
      have i1 : (h : Int) < (n0 : Int) := by omega
      have i2 : (m : Int) < (n0 : Int) := by omega
      have mk : ∀ w', PmI w w' bk l tl l → (w'.cell? ⟨bk, m * 2, none⟩ = some (.int .i64 ((stp l m).arc : Int)) ∧ w'.cell? ⟨bk, m * 2 + 1, none⟩ = some (.bool (stp l m).back) ∧ w'.cell? ⟨bk, h * 2, none⟩ = some (.int .i64 ((stp l h).arc : Int)) ∧ w'.cell? ⟨bk, h * 2 + 1, none⟩ = some (.bool (stp l h).back)) :=
        fun w' h => h.cells (by omega) (by omega)
      have MK := Lib.hid mk
      have HL := Lib.hid hlen
      clear mk hlen
      go_wp2
      go_region_held3 (fun w' => w'.cell? ⟨bk, m * 2, none⟩ = some (.int .i64 ((stp l m).arc : Int)) ∧ w'.cell? ⟨bk, m * 2 + 1, none⟩ = some (.bool (stp l m).back) ∧ w'.cell? ⟨bk, h * 2, none⟩ = some (.int .i64 ((stp l h).arc : Int)) ∧ w'.cell? ⟨bk, h * 2 + 1, none⟩ = some (.bool (stp l h).back)) (first | exact MK.out _ hI.out.drew | exact MK.out _ (hI.out.drew.below hb1))
        (first | (go_at_call 128; refine (cmp_calls (stp l m) (stp l h) _ ?c1 ?c2).mono ?_; (case c1 => exact hI.out.arc HD.out (by rw [HL.out]; omega)); (case c2 => exact hI.out.arc HD.out (by rw [HL.out]; omega)); rintro e w1 ⟨rfl, hb1⟩))
      have HI := Lib.hid (hI.out.drew.below hb1)
      clear hb1 hI
      go_wp2
      · go_roundw
        case rel => exact ⟨h + 1, y, by omega, by omega, hy, by go_num, rfl, HI⟩
        case measure => simp [intOf]; omega
      · go_roundw
        case rel => exact ⟨x, h, hx, by omega, by omega, rfl, rfl, HI⟩
        case measure => simp [intOf]; omega
    · have hxy' : x = y := by omega
      subst hxy'
      go_wp2
      go_loopw [17] (fun k wr => ∃ (z : Nat) (l' : List Stp), x ≤ z ∧ z ≤ m ∧ k = .int .i64 z ∧ Hid (PmI w wr bk l tl l')) (fun k _ => (intOf k).toNat)
      case atStart => exact ⟨m, l, by omega, by omega, rfl, hI⟩
      case round =>
        obtain ⟨z, l', hz, hzm, rfl, hJ⟩ := hrel
        by_cases hzx : x < z
        · obtain ⟨z, rfl⟩ : ∃ y, z = y + 1 := ⟨z - 1, by omega⟩
          have hlen := hJ.out.len.trans HN.out
          have hbk := hJ.out.lt
          obtain ⟨a0, a1, a2, a3⟩ := hJ.out.cells (i := z + 1) (j := z) (by omega) (by omega)
          obtain ⟨f0, f1, f2, f3⟩ := hJ.out.frees (z + 1) z
          have HL := Lib.hid hlen
          clear hlen
          go_wp2
          go_region
          go_wp2
          go_roundw
          case rel => exact ⟨z, _, by omega, by omega, by go_num, hJ.out.swap (i := z + 1) (j := z) (by rw [HL.out]; omega) (by rw [HL.out]; omega)⟩
          case measure => simp [intOf]
        · go_wp2
          refine bodyPost_ret (results_none rfl _ _ _) rfl ?_
          exact ⟨rfl, hJ.out.pm⟩

end Go.Proofs.Ythbffhlfdjpfaaa
