/- What is wrong with a network: the whole. -/
import Derived.Test.YthbffhlfdjpfaaaW15
namespace Go.Proofs.Ythbffhlfdjpfaaa
set_option linter.unusedVariables false
set_option linter.unusedSimpArgs false
open Go.RowKit

def arcsE (n : Int) : List Arc → Int
  | [] => 0
  | a :: l => if arcE n a ≠ 0 then arcE n a else arcsE n l
def netE (n : Int) (L : List Arc) : Int := if nodesE n ≠ 0 then nodesE n else if 200 < L.length then 2 else arcsE n L
theorem drop_arc (L : List Arc) (j : Nat) (h : j < L.length) : L.drop j = ⟨frs L j, tos L j, caps L j, tms L j⟩ :: L.drop (j + 1) := by
  rw [List.drop_eq_getElem_cons h]
  have e : L.getD j default = L[j] := by simp [List.getD_eq_getElem?_getD, List.getElem?_eq_getElem h]
  simp only [frs, tos, caps, tms, e]

set_option maxRecDepth 10000 in
set_option maxHeartbeats 1000000 in
theorem check_calls {w : World} {ok : Nat → Prop} {A : Option Addr} {L : List Arc} (nd : Int) (hd : Bool) (c : Nat) (hA : RdA w ok A L) (hL : L.length ≤ 281474976710656) :
    Calls Try.prog 89 #[.agg #[.int .i64 nd, .bool hd, .slice A L.length c]] w fun e w' => e = .returned (.int .i64 (netE nd L)) ∧ Below w.heap.size w w' := by
  have HA := Lib.hid hA
  clear hA
  have hnd := fun w => nodes_calls w nd
  have HND := Lib.hid hnd
  clear hnd
  go_enter Try.func89, Try.ntmps89
  obtain ⟨k, hk⟩ : ∃ k, nodesE nd = k := ⟨_, rfl⟩
  by_cases h1 : k = 0
  · subst h1
    have HK := Lib.hid hk
    have hbx := Blk.new w [.int .i64 nd, .bool hd, .slice A L.length c] 24
    by_cases h2 : 200 < L.length
    · clear hk
      go_wp2_with fail
      refine (HND.out _).mono ?_
      rintro e w1 ⟨rfl, hb1⟩
      rw [HK.out]
      have hq := hbx.below hb1
      have x0 := hq.cell 0 rfl
      have x1 := hq.cell 1 rfl
      have x2 := hq.cell 2 rfl
      have xl := hq.lt
      have hbw := (one_new (w := w)).trans (hb1.mono (by simp))
      clear hb1 hbx hq
      go_wp2
      go_ret
      refine ⟨ret_int ?_, hbw⟩
      rw [netE, if_neg (by rw [HK.out]; simp), if_pos h2]
    · clear hk
      go_wp2_with fail
      refine (HND.out _).mono ?_
      rintro e w1 ⟨rfl, hb1⟩
      rw [HK.out]
      have hq := hbx.below hb1
      have x0 := hq.cell 0 rfl
      have x1 := hq.cell 1 rfl
      have x2 := hq.cell 2 rfl
      have xl := hq.lt
      have hbw := (one_new (w := w)).trans (hb1.mono (by simp))
      have HQ := Lib.hid hq
      have HBW := Lib.hid hbw
      have e0 : (if nodesE nd ≠ 0 then nodesE nd else if 200 < L.length then 2 else arcsE nd L) = arcsE nd L := by rw [if_neg (by rw [HK.out]; simp), if_neg h2]
      have E0 := Lib.hid e0
      clear hb1 hbx hq hbw e0
      go_wp2
      go_loopw [20] (fun i wr => ∃ j : Nat, j ≤ L.length ∧ i = .int .i64 j ∧ arcsE nd (L.drop j) = arcsE nd L ∧ Below w.heap.size w wr ∧ Blk wr w.heap.size 24 [.int .i64 nd, .bool hd, .slice A L.length c]) (fun i _ => L.length - (intOf i).toNat)
      case atStart => exact ⟨0, Nat.zero_le _, rfl, rfl, HBW.out, HQ.out⟩
      case round =>
        obtain ⟨j, hj, rfl, hd', hB, hX⟩ := hrel
        have z0 := hX.cell 0 rfl
        have z1 := hX.cell 1 rfl
        have z2 := hX.cell 2 rfl
        have zl := hX.lt
        by_cases hlt : j < L.length
        · rw [drop_arc L j hlt] at hd'
          obtain ⟨b, off, rfl, _, a0, a1, a2, a3⟩ := HA.out j hlt
          have a0' := cell_kept hB a0
          have a1' := cell_kept hB a1
          have a2' := cell_kept hB a2
          have a3' := cell_kept hB a3
          have bl := World.block_lt_of_cell? _ _ a0'
          have hac := fun w => arc_calls w nd ⟨frs L j, tos L j, caps L j, tms L j⟩
          obtain ⟨q, hq⟩ : ∃ q, arcE nd ⟨frs L j, tos L j, caps L j, tms L j⟩ = q := ⟨_, rfl⟩
          simp only [arcsE, hq] at hd'
          rw [hq] at hac
          have HAC := Lib.hid hac
          have hB1 := hB.alloc hB.size (.cells #[.int .i64 (frs L j), .int .i64 (tos L j), .int .i64 (caps L j), .int .i64 (tms L j)] 49)
          have hX1 := hX.alloc (.cells #[.int .i64 (frs L j), .int .i64 (tos L j), .int .i64 (caps L j), .int .i64 (tms L j)] 49)
          have HB1 := Lib.hid hB1
          have HX1 := Lib.hid hX1
          by_cases h0 : q = 0
          · subst h0
            have hd2 : arcsE nd (L.drop (j + 1)) = arcsE nd L := by simpa using hd'
            have HD := Lib.hid hd2
            clear hd' hd2 hac hq a0 a1 a2 a3 hB1 hX1
            go_wp2_with (first | (go_at_call 119; refine (HAC.out _).mono ?_; rintro e w2 ⟨rfl, hb2⟩))
            go_roundw
            case rel => exact ⟨j + 1, by omega, by go_num, HD.out, HB1.out.trans (hb2.mono HB1.out.size), HX1.out.below hb2⟩
            case measure => simp [intOf]; omega
          · have hd2 : arcsE nd L = q := by rw [← hd', if_pos h0]
            have HD := Lib.hid hd2
            have e1 : (q != 0) = true := by simp [h0]
            clear hd' hd2 hac hq a0 a1 a2 a3 hB1 hX1
            go_wp2_with (first | (go_at_call 119; refine (HAC.out _).mono ?_; rintro e w2 ⟨rfl, hb2⟩))
            go_ret
            refine ⟨ret_int ?_, HB1.out.trans (hb2.mono HB1.out.size)⟩
            rw [netE, E0.out, HD.out]
        · have hj2 : j = L.length := by omega
          subst hj2
          rw [List.drop_length] at hd'
          have HD := Lib.hid hd'
          clear hd'
          go_wp2
          go_ret
          refine ⟨ret_int ?_, hB⟩
          rw [netE, E0.out, ← HD.out]
          rfl
  · have hbx := Blk.new w [.int .i64 nd, .bool hd, .slice A L.length c] 24
    have HK := Lib.hid hk
    have e1 : (k != 0) = true := by simp [h1]
    clear hk hbx
    go_wp2_with fail
    refine (HND.out _).mono ?_
    rintro e w1 ⟨rfl, hb1⟩
    rw [HK.out]
    have hbw := (one_new (w := w)).trans (hb1.mono (by simp))
    clear hb1
    go_wp2
    go_ret
    refine ⟨ret_int ?_, hbw⟩
    rw [netE, if_pos (by rw [HK.out]; exact h1), HK.out]
end Go.Proofs.Ythbffhlfdjpfaaa
