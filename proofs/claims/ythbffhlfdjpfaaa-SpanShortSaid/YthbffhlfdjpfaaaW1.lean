/- The methods of a network with a flow: where a step begins and ends, its room, its time; pushing. -/
import Derived.Test.YthbffhlfdjpfaaaBase
import Derived.Deep.QuietTactic
import Derived.BigQuiet
namespace Go.Proofs.Ythbffhlfdjpfaaa
set_option linter.unusedVariables false
set_option linter.unusedSimpArgs false
open Go.RowKit

theorem two_new {w : World} {o1 o2 : Obj} : Below w.heap.size w ((w.alloc o1).alloc o2) := ((Below.refl _ _).alloc (Nat.le_refl _) _).alloc (by simp) _

theorem two_new_n {w : World} {o1 o2 : Obj} (n : Nat) : Below w.heap.size w (((w.alloc o1).alloc o2).drewN n) := by
  have h : Below w.heap.size w ((w.alloc o1).alloc o2) := two_new
  exact ⟨h.os, h.tape, h.output, h.size, h.block⟩
/-- a step's time -/
def stm (tm : Nat → Int) (st : Stp) : Int := if st.back then - tm st.arc else tm st.arc

set_option maxHeartbeats 400000 in
theorem from_calls {w : World} {ok : Nat → Prop} {A : Option Addr} {L : List Arc} (nd : Int) (hd : Bool) (F : Value) (c : Nat) (st : Stp) (hA : RdA w ok A L) (hL : L.length ≤ 200) (hs : st.arc < L.length) :
    Calls Try.prog 129 #[.agg #[.int .i64 nd, .bool hd, .slice A L.length c, F], .agg #[.int .i64 (st.arc : Int), .bool st.back]] w fun e w' => e = .returned (.int .i64 (sfr (frs L) (tos L) st)) ∧ Below w.heap.size w w' := by
  obtain ⟨i, bk⟩ := st
  obtain ⟨b, off, rfl, _, h0, h1, _, _⟩ := hA i hs
  have hb := World.block_lt_of_cell? w _ h0
  simp only at hs h0 h1 ⊢
  clear hA
  cases bk
  all_goals
    go_enter Try.func129, Try.ntmps129
    go_wp2
    go_ret
    exact ⟨by simp [sfr], two_new⟩

set_option maxHeartbeats 400000 in
theorem to_calls {w : World} {ok : Nat → Prop} {A : Option Addr} {L : List Arc} (nd : Int) (hd : Bool) (F : Value) (c : Nat) (st : Stp) (hA : RdA w ok A L) (hL : L.length ≤ 200) (hs : st.arc < L.length) :
    Calls Try.prog 135 #[.agg #[.int .i64 nd, .bool hd, .slice A L.length c, F], .agg #[.int .i64 (st.arc : Int), .bool st.back]] w fun e w' => e = .returned (.int .i64 (sto (frs L) (tos L) st)) ∧ Below w.heap.size w w' := by
  have hf : ∀ w1 : World, Below w.heap.size w w1 → Calls Try.prog 129 #[.agg #[.int .i64 nd, .bool hd, .slice A L.length c, F], .agg #[.int .i64 (st.arc : Int), .bool (!st.back)]] w1 fun e w' => e = .returned (.int .i64 (sto (frs L) (tos L) st)) ∧ Below w1.heap.size w1 w' := by
    intro w1 hb
    refine (from_calls nd hd F c ⟨st.arc, !st.back⟩ (hA.fr (Fr.of_below (S := NoB) hb) (fun _ _ h => h)) hL hs).mono ?_
    rintro e w' ⟨he, hb'⟩
    exact ⟨by rw [he]; cases hbk : st.back <;> simp [sfr, sto, hbk], hb'⟩
  have HF := Lib.hid hf
  clear hf
  go_enter Try.func135, Try.ntmps135
  go_wp2_with (go_at_call 129; refine (HF.out _ ?hb).mono ?_; (case hb => exact two_new); rintro e w1 ⟨rfl, hb1⟩)
  go_ret
  exact ⟨rfl, two_new.trans (hb1.mono (by simp; omega))⟩

set_option maxHeartbeats 400000 in
theorem time_calls {w : World} {ok : Nat → Prop} {A : Option Addr} {L : List Arc} (nd : Int) (hd : Bool) (F : Value) (c : Nat) (st : Stp) (hA : RdA w ok A L) (hL : L.length ≤ 200) (hs : st.arc < L.length) (hb : 0 ≤ tms L st.arc ∧ tms L st.arc ≤ 1048576) :
    Calls Try.prog 136 #[.agg #[.int .i64 nd, .bool hd, .slice A L.length c, F], .agg #[.int .i64 (st.arc : Int), .bool st.back]] w fun e w' => e = .returned (.int .i64 (stm (tms L) st)) ∧ Below w.heap.size w w' := by
  obtain ⟨i, bk⟩ := st
  obtain ⟨b, off, rfl, _, h0, _, _, h3⟩ := hA i hs
  have hb' := World.block_lt_of_cell? w _ h0
  obtain ⟨hb0, hb1⟩ := hb
  simp only at hs h3 hb0 hb1 ⊢
  clear hA h0
  cases bk
  all_goals
    go_enter Try.func136, Try.ntmps136
    go_wp2
    go_ret
    exact ⟨by simp [stm], two_new⟩

set_option maxHeartbeats 400000 in
theorem room_calls {w : World} {ok ok' : Nat → Prop} {A F : Option Addr} {L : List Arc} {f : List Int} (nd : Int) (hd : Bool) (c c' : Nat) (st : Stp) (hA : RdA w ok A L) (hL : L.length ≤ 200) (hs : st.arc < L.length) (hF : RdI w ok' F f) (hf : f.length = L.length)
    (hc : 0 ≤ caps L st.arc ∧ caps L st.arc ≤ 1048576) (hfl : 0 ≤ fls f st.arc ∧ fls f st.arc ≤ 1048576) :
    Calls Try.prog 131 #[.agg #[.int .i64 nd, .bool hd, .slice A L.length c, .slice F f.length c'], .agg #[.int .i64 (st.arc : Int), .bool st.back]] w fun e w' => e = .returned (.int .i64 (room (caps L) (fls f) st)) ∧ Below w.heap.size w w' := by
  obtain ⟨i, bk⟩ := st
  obtain ⟨b, off, rfl, _, h0, _, h2, _⟩ := hA i hs
  obtain ⟨b', off', rfl, _, g0⟩ := hF i (by rw [hf]; exact hs)
  have hb1 := World.block_lt_of_cell? w _ h0
  have hb2 := World.block_lt_of_cell? w _ g0
  obtain ⟨hc0, hc1⟩ := hc
  obtain ⟨hf0, hf1⟩ := hfl
  have hs' : i < f.length := by rw [hf]; exact hs
  have hL' : f.length ≤ 200 := by rw [hf]; exact hL
  have e : f.getD i 0 = fls f i := rfl
  rw [e] at g0
  simp only at hs h2 hc0 hc1 hf0 hf1 ⊢
  clear hA h0 hF hf e
  cases bk
  · go_enter Try.func131, Try.ntmps131
    go_wp2
    go_quiet (fail)
    go_wp2
    go_ret
    exact ⟨by simp [room], two_new_n _⟩
  · go_enter Try.func131, Try.ntmps131
    go_wp2
    go_ret
    exact ⟨by simp [room], two_new⟩

end Go.Proofs.Ythbffhlfdjpfaaa
