/- The document's words on flows: within what arcs take, balances, values, costs, worth. -/
import Derived.Test.YthbffhlfdjpfaaaR1
import Derived.Test.YthbffhlfdjpfaaaW23
import Derived.Test.YthbffhlfdjpfaaaW12
namespace Go.Proofs.Ythbffhlfdjpfaaa
set_option linter.unusedVariables false
set_option linter.unusedSimpArgs false
open Go.RowKit

theorem grown_below {w wr w2 : World} {o : Obj} {row : Option Nat} (hb : Below w.heap.size w wr) (hg : (wr.alloc o).grownBy w2 row) (hr : ∀ k, row = some k → w.heap.size ≤ k) : Below w.heap.size w w2 := by
  have h := (Fr.of_below (S := NoB) hb).alloc o
  exact (h.grown hg (fun k hk => .inr (hr k hk))).below (Nat.le_refl _) (fun _ _ h => h)

theorem bdN {B : Nat} {w wr : World} (h : Below B w wr) (n : Nat) : Below B w (wr.drewN n) := ⟨h.os, h.tape, h.output, h.size, h.block⟩
def flowB (L : List Arc) (f : List Int) : Bool := decide (f.length = L.length) && withinB L f
theorem flowB_iff {L : List Arc} {f : List Int} : flowB L f = true ↔ f.length = L.length ∧ withinB L f = true := by simp [flowB]
theorem flowE_eq {n : Int} {L : List Arc} {f : List Int} (h : netE n L = 0) : flowE n L f = if flowB L f then 0 else 71 := by
  unfold flowE
  rw [if_neg (by simpa using h)]
  cases hb : flowB L f
  · rw [if_pos]
    · simp
    · by_cases h1 : f.length = L.length
      · right; cases h2 : withinB L f
        · rfl
        · rw [flowB_iff.2 ⟨h1, h2⟩] at hb; cases hb
      · left; exact h1
  · obtain ⟨h1, h2⟩ := flowB_iff.1 hb
    rw [if_neg (by simp [h1, h2])]; simp

set_option maxRecDepth 10000 in
set_option maxHeartbeats 1000000 in
theorem rwithin_calls {w : World} {okA okF : Nat → Prop} {A F : Option Addr} {L : List Arc} {f : List Int} (nd : Int) (hd : Bool) (c c' : Nat) (hA : RdA w okA A L) (hL : L.length ≤ 281474976710656) (hF : RdI w okF F f) (hf : f.length ≤ 281474976710656) :
    Calls Try.prog 113 #[.agg #[.int .i64 nd, .bool hd, .slice A L.length c], .slice F f.length c'] w fun e w' => e = .returned (.bool (flowB L f)) ∧ Below w.heap.size w w' := by
  have HA := Lib.hid hA
  have HF := Lib.hid hF
  clear hA hF
  go_enter Try.func113, Try.ntmps113
  by_cases hlen : f.length = L.length
  · have e1 : ((f.length : Int) != (L.length : Int)) = false := by rw [bne_eq_false_iff_eq]; omega
    have HLE := Lib.hid hlen
    have HBX := Lib.hid (show Below w.heap.size w (w.alloc (.cells #[.int .i64 nd, .bool hd, .slice A L.length c] 24)) ∧ Blk (w.alloc (.cells #[.int .i64 nd, .bool hd, .slice A L.length c] 24)) w.heap.size 24 [.int .i64 nd, .bool hd, .slice A L.length c] from ⟨one_new, Blk.new w [_, _, _] 24⟩)
    clear hlen
    go_wp2
    go_loopw [5] (fun i wr => ∃ j : Nat, j ≤ f.length ∧ i = .int .i64 j ∧ Hid (∀ i, i < j → 0 ≤ fls f i ∧ fls f i ≤ caps L i) ∧ Hid (Below w.heap.size w wr ∧ Blk wr w.heap.size 24 [.int .i64 nd, .bool hd, .slice A L.length c])) (fun i _ => f.length - (intOf i).toNat)
    case atStart => exact ⟨0, Nat.zero_le _, rfl, fun i hi => absurd hi (by omega), HBX⟩
    case round =>
      clear HBX
      obtain ⟨j, hj, rfl, hall, hB⟩ := hrel
      have z2 := hB.out.2.cell 2 rfl
      have zl := hB.out.2.lt
      by_cases hlt : j < f.length
      · obtain ⟨b, off, rfl, _, a0, a1, a2, a3⟩ := HA.out j (by rw [← HLE.out]; exact hlt)
        obtain ⟨b', off', rfl, _, g0⟩ := fls_cell HF.out hlt
        have a2' := cell_kept hB.out.1 a2
        have g0' := cell_kept hB.out.1 g0
        have bl := World.block_lt_of_cell? _ _ a2'
        have bl' := World.block_lt_of_cell? _ _ g0'
        have hjL : (j : Int) < (L.length : Int) := by have := HLE.out; omega
        clear a0 a1 a2 a3 g0
        by_cases q1 : fls f j < 0
        · have d1 : decide (fls f j < 0) = true := decide_eq_true q1
          go_wp2
          go_quiet (fail)
          go_wp2
          go_ret
          refine ⟨?_, bdN hB.out.1 _⟩
          rw [flowB, withinB_not hlt (.inl q1)]; simp
        · have d1 : decide (fls f j < 0) = false := decide_eq_false q1
          by_cases q2 : caps L j < fls f j
          · go_wp2
            go_quiet (fail)
            go_wp2
            go_ret
            refine ⟨?_, bdN hB.out.1 _⟩
            rw [flowB, withinB_not hlt (.inr q2)]; simp
          · have HN := Lib.hid (show ∀ i, i < j + 1 → 0 ≤ fls f i ∧ fls f i ≤ caps L i from fun i hi => by
              by_cases h : i = j
              · subst h; omega
              · exact hall.out i (by omega))
            go_wp2
            go_quiet (fail)
            go_wp2
            go_roundw
            case rel => exact ⟨j + 1, by omega, by go_num, HN, bdN hB.out.1 _, hB.out.2.drewN _⟩
            case measure => simp [intOf]; omega
      · have e : j = f.length := by omega
        subst e
        go_wp2
        go_ret
        refine ⟨?_, hB.out.1⟩
        rw [flowB_iff.2 ⟨HLE.out, withinB_iff.2 hall.out⟩]
        rfl
  · have e1 : ((f.length : Int) != (L.length : Int)) = true := by rw [bne_iff_ne]; omega
    have HLE := Lib.hid hlen
    clear hlen
    go_wp2
    go_ret
    refine ⟨?_, one_new⟩
    have := HLE.out
    simp [flowB, this]

set_option maxRecDepth 10000 in
set_option maxHeartbeats 1000000 in
theorem rfasked_calls {w : World} {okA okF : Nat → Prop} {A F : Option Addr} {L : List Arc} {f : List Int} (nd : Int) (hd : Bool) (c c' : Nat) (hA : RdA w okA A L) (hL : L.length ≤ 281474976710656) (hF : RdI w okF F f) (hf : f.length ≤ 281474976710656) :
    Calls Try.prog 73 #[.agg #[.int .i64 nd, .bool hd, .slice A L.length c], .slice F f.length c'] w fun e w' => e = .returned (.int .i64 (flowE nd L f)) ∧ Below w.heap.size w w' := by
  have hc := fun w1 (hb : Below w.heap.size w w1) => rcheck_calls nd hd c (hA.fr (Fr.of_below (S := NoB) hb) (fun _ _ h => h)) hL
  have hw := fun w1 (hb : Below w.heap.size w w1) => rwithin_calls nd hd c c' (hA.fr (Fr.of_below (S := NoB) hb) (fun _ _ h => h)) hL (hF.fr (Fr.of_below (S := NoB) hb) (fun _ _ h => h)) hf
  obtain ⟨k, hk⟩ : ∃ k, netE nd L = k := ⟨_, rfl⟩
  obtain ⟨q, hq⟩ : ∃ q, flowB L f = q := ⟨_, rfl⟩
  simp only [hk] at hc
  simp only [hq] at hw
  have HC := Lib.hid hc
  have HW := Lib.hid hw
  have HK := Lib.hid hk
  have HQ := Lib.hid hq
  clear hc hk hA hF hw hq
  have HBX := Lib.hid (Blk.new w [.int .i64 nd, .bool hd, .slice A L.length c] 24)
  go_enter Try.func73, Try.ntmps73
  go_wp2_with fail
  refine (HC.out _ one_new).mono ?_
  rintro e w1 ⟨rfl, hb1⟩
  have hq := HBX.out.below hb1
  have x0 := hq.cell 0 rfl
  have x1 := hq.cell 1 rfl
  have x2 := hq.cell 2 rfl
  have xl := hq.lt
  have HBW := Lib.hid ((one_new (w := w)).trans (hb1.mono (by simp)))
  clear hq hb1
  by_cases h0 : k = 0
  · subst h0
    go_wp2_with fail
    refine (HW.out _ HBW.out).mono ?_
    rintro e w2 ⟨rfl, hb2⟩
    have HB2 := Lib.hid (below_then' HBW.out hb2)
    clear hb2
    cases q
    · go_wp2
      go_ret
      refine ⟨ret_int ?_, HB2.out⟩
      rw [flowE_eq HK.out, HQ.out]; rfl
    · go_wp2
      go_ret
      refine ⟨ret_int ?_, HB2.out⟩
      rw [flowE_eq HK.out, HQ.out]; rfl
  · have e1 : (k != 0) = true := by simp [h0]
    go_wp2
    go_ret
    refine ⟨ret_int ?_, HBW.out⟩
    rw [flowE, if_pos (by rw [HK.out]; exact h0), HK.out]

set_option maxRecDepth 10000 in
set_option maxHeartbeats 1000000 in
theorem rleaves_calls {w : World} {ok ok' : Nat → Prop} {A F : Option Addr} {L : List Arc} {f : List Int} (nd : Int) (hd : Bool) (c c' : Nat) (s : Int) (hA : RdA w ok A L) (hL : L.length ≤ 200) (hF : RdI w ok' F f) (hf : f.length = L.length)
    (hfl : ∀ i, i < L.length → 0 ≤ fls f i ∧ fls f i ≤ 1048576) :
    Calls Try.prog 78 #[.agg #[.int .i64 nd, .bool hd, .slice A L.length c], .slice F f.length c', .int .i64 s] w fun e w' => e = .returned (.int .i64 (bal L.length (frs L) (tos L) (fls f) s)) ∧ Below w.heap.size w w' := by
  have HA := Lib.hid hA
  have HF := Lib.hid hF
  have HFL := Lib.hid hfl
  have HLF := Lib.hid hf
  rw [hf]
  clear hA hF hfl hf
  go_enter Try.func78, Try.ntmps78
  go_wp2
  go_loop [7, 8] (fun k i => ∃ j : Nat, j ≤ L.length ∧ i = .int .i64 j ∧ k = .int .i64 (bal j (frs L) (tos L) (fls f) s)) (fun _ i => L.length - (intOf i).toNat)
  case atStart => exact ⟨0, Nat.zero_le _, rfl, rfl⟩
  case round =>
    obtain ⟨j, hj, rfl, rfl⟩ := hrel
    by_cases hlt : j < L.length
    · obtain ⟨b, off, rfl, _, a0, a1, a2, a3⟩ := HA.out j hlt
      obtain ⟨b', off', rfl, _, g0⟩ := HF.out j (by rw [HLF.out]; exact hlt)
      have bl := World.block_lt_of_cell? _ _ a0
      have bl' := World.block_lt_of_cell? _ _ g0
      have g0' : w.cell? ⟨b', off' + j, none⟩ = some (.int .i64 (fls f j)) := g0
      obtain ⟨h1, h1'⟩ := bal_bound (k := j) (fr := frs L) (h := tos L) (s := s) (fun i hi => HFL.out i (show i < L.length by omega))
      obtain ⟨h2, h2'⟩ := HFL.out j hlt
      have hsum : bal (j + 1) (frs L) (tos L) (fls f) s = bal j (frs L) (tos L) (fls f) s + ((if frs L j = s then fls f j else 0) - (if tos L j = s then fls f j else 0)) := rfl
      obtain ⟨x, hx⟩ : ∃ x, bal j (frs L) (tos L) (fls f) s = x := ⟨_, rfl⟩
      rw [hx] at h1 h1' hsum ⊢
      have HX := Lib.hid hx
      by_cases q1 : frs L j = s <;> by_cases q2 : tos L j = s
      all_goals
        simp only [q1, q2, if_true, if_false] at hsum
        have HSS := Lib.hid hsum
        have Q1 := Lib.hid q1
        have Q2 := Lib.hid q2
        first | have d1 : decide (frs L j = s) = true := decide_eq_true q1 | have d1 : decide (frs L j = s) = false := decide_eq_false q1
        first | have d2 : decide (tos L j = s) = true := decide_eq_true q2 | have d2 : decide (tos L j = s) = false := decide_eq_false q2
        first | have f1 : (frs L j == s) = true := beq_iff_eq.2 q1 | have f1 : (frs L j == s) = false := beq_eq_false_iff_ne.2 q1
        first | have f2 : (tos L j == s) = true := beq_iff_eq.2 q2 | have f2 : (tos L j == s) = false := beq_eq_false_iff_ne.2 q2
        clear hx hsum a2 a3 g0 q1 q2
        go_wp2
        go_round
        case rel => exact ⟨j + 1, by omega, by go_num, by rw [HSS.out]; congr 1; omega⟩
        case measure => simp [intOf]; omega
    · go_wp2
      go_ret
      have e : j = L.length := by omega
      subst e
      exact ⟨rfl, one_new⟩
end Go.Proofs.Ythbffhlfdjpfaaa
