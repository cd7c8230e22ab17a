/- How long a flow is on its way; how much of it leaves a node. -/
import Derived.Test.YthbffhlfdjpfaaaW4
namespace Go.Proofs.Ythbffhlfdjpfaaa
set_option linter.unusedVariables false
set_option linter.unusedSimpArgs false
open Go.RowKit

/-- how long all of a flow is on its way -/
def paidF (L : List Arc) (f : List Int) : Int := sumTo L.length fun i => fls f i * tms L i
theorem paid_bound {k : Nat} {g h : Nat → Int} (hg : ∀ i, i < k → 0 ≤ g i ∧ g i ≤ 1048576) (hh : ∀ i, i < k → 0 ≤ h i ∧ h i ≤ 1048576) : 0 ≤ sumTo k (fun i => g i * h i) ∧ sumTo k (fun i => g i * h i) ≤ k * 1099511627776 := by
  induction k with
  | zero => simp [sumTo]
  | succ k ih =>
    have h1 := ih (fun i hi => hg i (by omega)) (fun i hi => hh i (by omega))
    have h2 := hg k (by omega)
    have h3 := hh k (by omega)
    have h4 : 0 ≤ g k * h k := Int.mul_nonneg h2.1 h3.1
    have h5 : g k * h k ≤ 1048576 * 1048576 := Int.mul_le_mul h2.2 h3.2 h3.1 (by omega)
    simp only [sumTo]
    omega

set_option maxRecDepth 10000 in
set_option maxHeartbeats 1000000 in
theorem paid_calls {w : World} {ok ok' : Nat → Prop} {A F : Option Addr} {L : List Arc} {f : List Int} (nd : Int) (hd : Bool) (c c' : Nat) (hA : RdA w ok A L) (hL : L.length ≤ 200) (hF : RdI w ok' F f) (hf : f.length = L.length)
    (hc : ∀ i, i < L.length → 0 ≤ tms L i ∧ tms L i ≤ 1048576) (hfl : ∀ i, i < L.length → 0 ≤ fls f i ∧ fls f i ≤ 1048576) :
    Calls Try.prog 68 #[.agg #[.int .i64 nd, .bool hd, .slice A L.length c], .slice F f.length c'] w fun e w' => e = .returned (.int .i64 (paidF L f)) ∧ Below w.heap.size w w' := by
  have HA := Lib.hid hA
  have HF := Lib.hid hF
  have HC := Lib.hid hc
  have HFL := Lib.hid hfl
  have HLF := Lib.hid hf
  rw [hf]
  clear hA hF hc hfl hf
  go_enter Try.func68, Try.ntmps68
  go_wp2
  go_loopw [5, 11] (fun k i wr => ∃ j : Nat, j ≤ L.length ∧ i = .int .i64 j ∧ k = .int .i64 (sumTo j fun i => fls f i * tms L i) ∧ Below w.heap.size w wr) (fun _ i _ => L.length - (intOf i).toNat)
  case atStart => exact ⟨0, Nat.zero_le _, rfl, rfl, one_new⟩
  case round =>
    obtain ⟨j, hj, rfl, rfl, hB⟩ := hrel
    by_cases hlt : j < L.length
    · obtain ⟨b, off, rfl, _, a0, a1, a2, a3⟩ := HA.out j hlt
      obtain ⟨b', off', rfl, _, g0⟩ := HF.out j (by rw [HLF.out]; exact hlt)
      have a0' := cell_kept hB a0
      have a1' := cell_kept hB a1
      have a2' := cell_kept hB a2
      have a3' := cell_kept hB a3
      have g0' : wr.cell? ⟨b', off' + j, none⟩ = some (.int .i64 (fls f j)) := cell_kept hB g0
      have bl := World.block_lt_of_cell? _ _ a0'
      have bl' := World.block_lt_of_cell? _ _ g0'
      have h1 := paid_bound (k := j) (fun i hi => HFL.out i (by omega)) (fun i hi => HC.out i (by omega))
      have h2 := HFL.out j hlt
      have h3 := HC.out j hlt
      have h4 : 0 ≤ fls f j * tms L j := Int.mul_nonneg h2.1 h3.1
      have h5 : fls f j * tms L j ≤ 1048576 * 1048576 := Int.mul_le_mul h2.2 h3.2 h3.1 (by omega)
      have hsum : sumTo (j + 1) (fun i => fls f i * tms L i) = sumTo j (fun i => fls f i * tms L i) + fls f j * tms L j := rfl
      have HS := Lib.hid hsum
      obtain ⟨x, hx⟩ : ∃ x, sumTo j (fun i => fls f i * tms L i) = x := ⟨_, rfl⟩
      rw [hx] at h1 hsum ⊢
      have e1 : IntKind.i64.wrap (fls f j * tms L j) = fls f j * tms L j := IntWalk.i64_in _ (by omega)
      have e2 : IntKind.i64.wrap (x + fls f j * tms L j) = x + fls f j * tms L j := IntWalk.i64_in _ (by omega)
      have HX := Lib.hid hx
      have HSS := Lib.hid hsum
      clear hx hsum a0 a1 a2 a3 g0
      go_wp2
      go_region
      all_goals
        go_wp2
        go_roundw
        case rel => exact ⟨j + 1, by omega, by go_num, by rw [HSS.out], (hB.alloc hB.size _).drew⟩
        case measure => simp [intOf]; omega
    · go_wp2
      go_ret
      have e : j = L.length := by omega
      subst e
      exact ⟨rfl, hB⟩

theorem bal_bound {k : Nat} {fr g h : Nat → Int} {s : Int} (hg : ∀ i, i < k → 0 ≤ g i ∧ g i ≤ 1048576) : - ((k : Int) * 1048576) ≤ bal k fr h g s ∧ bal k fr h g s ≤ k * 1048576 := by
  induction k with
  | zero => simp [bal, sumTo]
  | succ k ih =>
    have h1 := ih (fun i hi => hg i (by omega))
    have h2 := hg k (by omega)
    unfold bal at h1 ⊢
    simp only [sumTo]
    split <;> split <;> omega

set_option maxRecDepth 10000 in
set_option maxHeartbeats 1000000 in
theorem value_calls {w : World} {ok ok' : Nat → Prop} {A F : Option Addr} {L : List Arc} {f : List Int} (nd : Int) (hd : Bool) (c c' : Nat) (s : Int) (hA : RdA w ok A L) (hL : L.length ≤ 200) (hF : RdI w ok' F f) (hf : f.length = L.length)
    (hfl : ∀ i, i < L.length → 0 ≤ fls f i ∧ fls f i ≤ 1048576) :
    Calls Try.prog 71 #[.agg #[.int .i64 nd, .bool hd, .slice A L.length c], .int .i64 s, .slice F f.length c'] w fun e w' => e = .returned (.int .i64 (bal L.length (frs L) (tos L) (fls f) s)) ∧ Below w.heap.size w w' := by
  have HA := Lib.hid hA
  have HF := Lib.hid hF
  have HFL := Lib.hid hfl
  have HLF := Lib.hid hf
  rw [hf]
  clear hA hF hfl hf
  go_enter Try.func71, Try.ntmps71
  go_wp2
  go_loopw [7, 13] (fun k i wr => ∃ j : Nat, j ≤ L.length ∧ i = .int .i64 j ∧ k = .int .i64 (bal j (frs L) (tos L) (fls f) s) ∧ Below w.heap.size w wr) (fun _ i _ => L.length - (intOf i).toNat)
  case atStart => exact ⟨0, Nat.zero_le _, rfl, rfl, one_new⟩
  case round =>
    obtain ⟨j, hj, rfl, rfl, hB⟩ := hrel
    by_cases hlt : j < L.length
    · obtain ⟨b, off, rfl, _, a0, a1, a2, a3⟩ := HA.out j hlt
      obtain ⟨b', off', rfl, _, g0⟩ := HF.out j (by rw [HLF.out]; exact hlt)
      have a0' := cell_kept hB a0
      have a1' := cell_kept hB a1
      have a2' := cell_kept hB a2
      have a3' := cell_kept hB a3
      have g0' : wr.cell? ⟨b', off' + j, none⟩ = some (.int .i64 (fls f j)) := cell_kept hB g0
      have bl := World.block_lt_of_cell? _ _ a0'
      have bl' := World.block_lt_of_cell? _ _ g0'
      obtain ⟨h1, h1'⟩ := bal_bound (k := j) (fr := frs L) (h := tos L) (s := s) (fun i hi => HFL.out i (show i < L.length by omega))
      obtain ⟨h2, h2'⟩ := HFL.out j hlt
      have hsum : bal (j + 1) (frs L) (tos L) (fls f) s = bal j (frs L) (tos L) (fls f) s + ((if frs L j = s then fls f j else 0) - (if tos L j = s then fls f j else 0)) := rfl
      obtain ⟨x, hx⟩ : ∃ x, bal j (frs L) (tos L) (fls f) s = x := ⟨_, rfl⟩
      rw [hx] at h1 h1' hsum ⊢
      have HX := Lib.hid hx
      by_cases q1 : frs L j = s
      · by_cases q2 : tos L j = s
        · rw [if_pos q1, if_pos q2] at hsum
          have d1 : decide (frs L j = s) = true := by simp [q1]
          have d2 : decide (tos L j = s) = true := by simp [q2]
          have HSS := Lib.hid hsum
          have Q1 := Lib.hid q1
          have Q2 := Lib.hid q2
          clear hx hsum a0 a1 a2 a3 g0
          go_wp2
          go_roundw
          case rel => exact ⟨j + 1, by omega, by go_num, by rw [HSS.out]; congr 1; omega, hB.alloc hB.size _⟩
          case measure => simp [intOf]; omega
        · rw [if_pos q1, if_neg q2] at hsum
          have d1 : decide (frs L j = s) = true := by simp [q1]
          have d2 : decide (tos L j = s) = false := by simp [q2]
          have HSS := Lib.hid hsum
          have Q1 := Lib.hid q1
          have Q2 := Lib.hid q2
          clear hx hsum a0 a1 a2 a3 g0
          go_wp2
          go_roundw
          case rel => exact ⟨j + 1, by omega, by go_num, by rw [HSS.out]; congr 1; omega, hB.alloc hB.size _⟩
          case measure => simp [intOf]; omega
      · by_cases q2 : tos L j = s
        · rw [if_neg q1, if_pos q2] at hsum
          have d1 : decide (frs L j = s) = false := by simp [q1]
          have d2 : decide (tos L j = s) = true := by simp [q2]
          have HSS := Lib.hid hsum
          have Q1 := Lib.hid q1
          have Q2 := Lib.hid q2
          clear hx hsum a0 a1 a2 a3 g0
          go_wp2
          go_roundw
          case rel => exact ⟨j + 1, by omega, by go_num, by rw [HSS.out]; congr 1; omega, hB.alloc hB.size _⟩
          case measure => simp [intOf]; omega
        · rw [if_neg q1, if_neg q2] at hsum
          have d1 : decide (frs L j = s) = false := by simp [q1]
          have d2 : decide (tos L j = s) = false := by simp [q2]
          have HSS := Lib.hid hsum
          have Q1 := Lib.hid q1
          have Q2 := Lib.hid q2
          clear hx hsum a0 a1 a2 a3 g0
          go_wp2
          go_roundw
          case rel => exact ⟨j + 1, by omega, by go_num, by rw [HSS.out]; congr 1; omega, hB.alloc hB.size _⟩
          case measure => simp [intOf]; omega
    · go_wp2
      go_ret
      have e : j = L.length := by omega
      subst e
      exact ⟨rfl, hB⟩
end Go.Proofs.Ythbffhlfdjpfaaa
