/- What is wrong with a network and a flow. -/
import Derived.Test.YthbffhlfdjpfaaaMn
namespace Go.Proofs.Ythbffhlfdjpfaaa
set_option linter.unusedVariables false
set_option linter.unusedSimpArgs false
open Go.RowKit

/-- is a flow from 0 to what arcs take? -/
def withinB (L : List Arc) (f : List Int) : Bool := (List.range f.length).all fun i => decide (0 ≤ fls f i) && decide (fls f i ≤ caps L i)
theorem withinB_iff {L : List Arc} {f : List Int} : withinB L f = true ↔ ∀ i, i < f.length → 0 ≤ fls f i ∧ fls f i ≤ caps L i := by
  simp [withinB, List.all_eq_true]
theorem withinB_not {L : List Arc} {f : List Int} {i : Nat} (hi : i < f.length) (h : fls f i < 0 ∨ caps L i < fls f i) : withinB L f = false := by
  cases hb : withinB L f
  · rfl
  · have := withinB_iff.1 hb i hi; omega
def flowE (n : Int) (L : List Arc) (f : List Int) : Int := if netE n L ≠ 0 then netE n L else if f.length ≠ L.length ∨ withinB L f = false then 71 else 0
theorem flowE_zero {n : Int} {L : List Arc} {f : List Int} (h : flowE n L f = 0) : netE n L = 0 ∧ f.length = L.length ∧ IsFlow L.length (caps L) (fls f) := by
  unfold flowE at h
  by_cases h1 : netE n L = 0
  · rw [if_neg (by simpa using h1)] at h
    by_cases h2 : f.length ≠ L.length ∨ withinB L f = false
    · rw [if_pos h2] at h; omega
    · rw [not_or] at h2
      have h3 : f.length = L.length := by simpa using h2.1
      have h4 : withinB L f = true := by simpa using h2.2
      exact ⟨h1, h3, fun i hi => withinB_iff.1 h4 i (by omega)⟩
  · rw [if_pos h1] at h; exact absurd h h1
theorem flowE_ok {n : Int} {L : List Arc} {f : List Int} (h1 : netE n L = 0) (h2 : f.length = L.length) (h3 : IsFlow L.length (caps L) (fls f)) : flowE n L f = 0 := by
  have h4 : withinB L f = true := withinB_iff.2 fun i hi => h3 i (by omega)
  unfold flowE
  rw [if_neg (by simpa using h1), if_neg (by simp [h2, h4])]
theorem fls_cell {w : World} {ok : Nat → Prop} {F : Option Addr} {f : List Int} (hF : RdI w ok F f) {i : Nat} (hi : i < f.length) : ∃ b off, F = some ⟨b, off, none⟩ ∧ ok b ∧ w.cell? ⟨b, off + i, none⟩ = some (.int .i64 (fls f i)) := hF i hi

set_option maxRecDepth 10000 in
set_option maxHeartbeats 1000000 in
theorem sasked_calls {w : World} {okA okF : Nat → Prop} {A F : Option Addr} {L : List Arc} {f : List Int} (nd : Int) (hd : Bool) (c c' : Nat) (hA : RdA w okA A L) (hL : L.length ≤ 281474976710656) (hF : RdI w okF F f) (hf : f.length ≤ 281474976710656) :
    Calls Try.prog 120 #[.agg #[.int .i64 nd, .bool hd, .slice A L.length c], .slice F f.length c'] w fun e w' => e = .returned (.int .i64 (flowE nd L f)) ∧ Below w.heap.size w w' := by
  have hc := fun w1 (hb : Below w.heap.size w w1) => check_calls nd hd c (hA.fr (Fr.of_below (S := NoB) hb) (fun _ _ h => h)) hL
  obtain ⟨k, hk⟩ : ∃ k, netE nd L = k := ⟨_, rfl⟩
  simp only [hk] at hc
  have HC := Lib.hid hc
  have HK := Lib.hid hk
  have HA := Lib.hid hA
  have HF := Lib.hid hF
  clear hc hk hA hF
  have hbx := Blk.new w [.int .i64 nd, .bool hd, .slice A L.length c] 24
  have HBX := Lib.hid hbx
  clear hbx
  go_enter Try.func120, Try.ntmps120
  go_wp2_with fail
  refine (HC.out _ one_new).mono ?_
  rintro e w1 ⟨rfl, hb1⟩
  have hq := HBX.out.below hb1
  have x0 := hq.cell 0 rfl
  have x1 := hq.cell 1 rfl
  have x2 := hq.cell 2 rfl
  have xl := hq.lt
  have hbw := (one_new (w := w)).trans (hb1.mono (by simp))
  have HBW := Lib.hid hbw
  clear hq hb1 hbw
  by_cases h0 : k = 0
  · subst h0
    by_cases hlen : f.length = L.length
    · have e1 : ((f.length : Int) != (L.length : Int)) = false := by rw [bne_eq_false_iff_eq]; omega
      have HLE := Lib.hid hlen
      clear hlen
      go_wp2
      go_loop [21] (fun i => ∃ j : Nat, j ≤ f.length ∧ i = .int .i64 j ∧ Hid (∀ i, i < j → 0 ≤ fls f i ∧ fls f i ≤ caps L i)) (fun i => f.length - (intOf i).toNat)
      case atStart => exact ⟨0, Nat.zero_le _, rfl, fun i hi => absurd hi (by omega)⟩
      case round =>
        obtain ⟨j, hj, rfl, hall⟩ := hrel
        by_cases hlt : j < f.length
        · obtain ⟨b, off, rfl, _, a0, a1, a2, a3⟩ := HA.out j (by rw [← HLE.out]; exact hlt)
          obtain ⟨b', off', rfl, _, g0⟩ := fls_cell HF.out hlt
          have a2' := cell_kept HBW.out a2
          have g0' := cell_kept HBW.out g0
          have bl := World.block_lt_of_cell? _ _ a2'
          have bl' := World.block_lt_of_cell? _ _ g0'
          have hjL : (j : Int) < (L.length : Int) := by have := HLE.out; omega
          clear a0 a1 a2 a3 g0
          by_cases q1 : fls f j < 0
          · go_wp2
            go_ret
            refine ⟨ret_int ?_, HBW.out⟩
            rw [flowE, if_neg (by rw [HK.out]; simp), if_pos (.inr (withinB_not hlt (.inl q1)))]
          · by_cases q2 : caps L j < fls f j
            · go_wp2
              go_ret
              refine ⟨ret_int ?_, HBW.out⟩
              rw [flowE, if_neg (by rw [HK.out]; simp), if_pos (.inr (withinB_not hlt (.inr q2)))]
            · have HN := Lib.hid (show ∀ i, i < j + 1 → 0 ≤ fls f i ∧ fls f i ≤ caps L i from fun i hi => by
                by_cases h : i = j
                · subst h; omega
                · exact hall.out i (by omega))
              go_wp2
              go_round
              case rel => exact ⟨j + 1, by omega, by go_num, HN⟩
              case measure => simp [intOf]; omega
        · have e : j = f.length := by omega
          subst e
          go_wp2
          go_ret
          refine ⟨ret_int ?_, HBW.out⟩
          rw [flowE, if_neg (by rw [HK.out]; simp), if_neg]
          rw [not_or]
          exact ⟨by simpa using HLE.out, by rw [withinB_iff.2 hall.out]; simp⟩
    · have e1 : ((f.length : Int) != (L.length : Int)) = true := by rw [bne_iff_ne]; omega
      have HLE := Lib.hid hlen
      clear hlen
      go_wp2
      go_ret
      refine ⟨ret_int ?_, HBW.out⟩
      rw [flowE, if_neg (by rw [HK.out]; simp), if_pos (.inl HLE.out)]
  · have e1 : (k != 0) = true := by simp [h0]
    go_wp2
    go_ret
    refine ⟨ret_int ?_, HBW.out⟩
    rw [flowE, if_pos (by rw [HK.out]; exact h0), HK.out]
end Go.Proofs.Ythbffhlfdjpfaaa
