/- What is wrong with a source and a sink. -/
import Derived.Test.YthbffhlfdjpfaaaW16
namespace Go.Proofs.Ythbffhlfdjpfaaa
set_option linter.unusedVariables false
set_option linter.unusedSimpArgs false
open Go.RowKit

def endsE (n : Int) (L : List Arc) (s t : Int) : Int := if netE n L ≠ 0 then netE n L else if min s t < 0 ∨ n ≤ max s t ∨ s = t then 70 else 0

set_option maxRecDepth 10000 in
set_option maxHeartbeats 1000000 in
theorem ends_calls {w : World} {ok : Nat → Prop} {A : Option Addr} {L : List Arc} (nd : Int) (hd : Bool) (c : Nat) (s t : Int) (hA : RdA w ok A L) (hL : L.length ≤ 281474976710656) :
    Calls Try.prog 79 #[.agg #[.int .i64 nd, .bool hd, .slice A L.length c], .int .i64 s, .int .i64 t] w fun e w' => e = .returned (.int .i64 (endsE nd L s t)) ∧ Below w.heap.size w w' := by
  have hc := fun w1 (hb : Below w.heap.size w w1) => check_calls nd hd c (hA.fr (Fr.of_below (S := NoB) hb) (fun _ _ h => h)) hL
  obtain ⟨k, hk⟩ : ∃ k, netE nd L = k := ⟨_, rfl⟩
  simp only [hk] at hc
  have HC := Lib.hid hc
  have HK := Lib.hid hk
  clear hc hk hA
  have hbx := Blk.new w [.int .i64 nd, .bool hd, .slice A L.length c] 24
  have HBX := Lib.hid hbx
  clear hbx
  go_enter Try.func79, Try.ntmps79
  go_wp2_with fail
  refine (HC.out _ one_new).mono ?_
  rintro e w1 ⟨rfl, hb1⟩
  have hq := HBX.out.below hb1
  have x0 := hq.cell 0 rfl
  have x1 := hq.cell 1 rfl
  have x2 := hq.cell 2 rfl
  have xl := hq.lt
  have hbw := (one_new (w := w)).trans (hb1.mono (by simp))
  have HBW := Lib.hid hbw
  clear hq hb1 hbw
  by_cases h0 : k = 0
  · subst h0
    go_wp2
    all_goals
      go_ret
      refine ⟨ret_int ?_, HBW.out⟩
      rw [endsE, if_neg (by rw [HK.out]; simp)]
      split <;> first | omega | (simp_all <;> omega)
  · have e1 : (k != 0) = true := by simp [h0]
    go_wp2
    go_ret
    refine ⟨ret_int ?_, HBW.out⟩
    rw [endsE, if_pos (by rw [HK.out]; exact h0), HK.out]
end Go.Proofs.Ythbffhlfdjpfaaa
