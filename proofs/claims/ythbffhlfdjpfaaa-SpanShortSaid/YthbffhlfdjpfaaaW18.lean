/- What is wrong with a network, ends and a horizon. -/
import Derived.Test.YthbffhlfdjpfaaaW17
import Derived.Test.YthbffhlfdjpfaaaW14
namespace Go.Proofs.Ythbffhlfdjpfaaa
set_option linter.unusedVariables false
set_option linter.unusedSimpArgs false
open Go.RowKit

def horE (t : Int) : Int := if t < 0 then 1 else if 1024 < t then 2 else 0
def askedE (n : Int) (L : List Arc) (s t h : Int) : Int := if endsE n L s t ≠ 0 then endsE n L s t else horE h

set_option maxRecDepth 10000 in
set_option maxHeartbeats 1000000 in
theorem asked_calls {w : World} {ok : Nat → Prop} {A : Option Addr} {L : List Arc} (nd : Int) (hd : Bool) (c : Nat) (s t h : Int) (hA : RdA w ok A L) (hL : L.length ≤ 281474976710656) :
    Calls Try.prog 66 #[.agg #[.int .i64 nd, .bool hd, .slice A L.length c], .int .i64 s, .int .i64 t, .int .i64 h] w fun e w' => e = .returned (.int .i64 (askedE nd L s t h)) ∧ Below w.heap.size w w' := by
  have hc := fun w1 (hb : Below w.heap.size w w1) => ends_calls nd hd c s t (hA.fr (Fr.of_below (S := NoB) hb) (fun _ _ h => h)) hL
  obtain ⟨k, hk⟩ : ∃ k, endsE nd L s t = k := ⟨_, rfl⟩
  simp only [hk] at hc
  have hh := fun w1 => horizon_calls w1 h
  obtain ⟨q, hq⟩ : ∃ q, horE h = q := ⟨_, rfl⟩
  have hq' : (if h < 0 then 1 else if 1024 < h then 2 else 0 : Int) = q := hq
  simp only [hq'] at hh
  have HC := Lib.hid hc
  have HK := Lib.hid hk
  have HH := Lib.hid hh
  have HQ := Lib.hid hq
  clear hc hk hA hh hq hq'
  go_enter Try.func66, Try.ntmps66
  go_wp2_with fail
  refine (HC.out _ one_new).mono ?_
  rintro e w1 ⟨rfl, hb1⟩
  have hbw := (one_new (w := w)).trans (hb1.mono (by simp))
  have HBW := Lib.hid hbw
  clear hb1 hbw
  by_cases h0 : k = 0
  · subst h0
    go_wp2_with fail
    refine (HH.out _).mono ?_
    rintro e w2 ⟨rfl, hb2⟩
    go_wp2
    go_ret
    refine ⟨ret_int ?_, HBW.out.trans (hb2.mono HBW.out.size)⟩
    rw [askedE, if_neg (by rw [HK.out]; simp), HQ.out]
  · have e1 : (k != 0) = true := by simp [h0]
    go_wp2
    go_ret
    refine ⟨ret_int ?_, HBW.out⟩
    rw [askedE, if_pos (by rw [HK.out]; exact h0), HK.out]
end Go.Proofs.Ythbffhlfdjpfaaa
