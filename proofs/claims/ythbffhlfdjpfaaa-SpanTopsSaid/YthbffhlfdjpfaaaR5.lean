/- A network with at most so many of its nodes and arcs. -/
import Derived.Test.YthbffhlfdjpfaaaR4
namespace Go.Proofs.Ythbffhlfdjpfaaa
set_option linter.unusedVariables false
set_option linter.unusedSimpArgs false
open Go.RowKit

def fewN (nd : Int) (k : Int) : Int := if k < nd ∧ nd ≤ 50 then k else nd
def fewL (L : List Arc) (k : Nat) : List Arc := if k < L.length ∧ L.length ≤ 200 then L.take k else L
theorem fewL_len (L : List Arc) (k : Nat) : (fewL L k).length ≤ L.length := by
  unfold fewL; split
  · exact List.length_take_le' _ _
  · exact Nat.le_refl _
theorem getD_take {L : List Arc} {k i : Nat} (h : i < k) : (L.take k).getD i default = L.getD i default := by
  simp [List.getD_eq_getElem?_getD, List.getElem?_take, h]
theorem RdA.take {w : World} {ok : Nat → Prop} {A : Option Addr} {L : List Arc} (h : RdA w ok A L) (k : Nat) : RdA w ok A (L.take k) := fun i hi => by
  have hk : i < k := by simp at hi; omega
  have hL : i < L.length := by simp at hi; omega
  obtain ⟨b, off, e, hb, h0, h1, h2, h3⟩ := h i hL
  have e' := getD_take (L := L) hk
  exact ⟨b, off, e, hb, by rw [frs, e']; exact h0, by rw [tos, e']; exact h1, by rw [caps, e']; exact h2, by rw [tms, e']; exact h3⟩
theorem RdA.few {w : World} {ok : Nat → Prop} {A : Option Addr} {L : List Arc} (h : RdA w ok A L) (k : Nat) : RdA w ok A (fewL L k) := by
  unfold fewL; split
  · exact h.take k
  · exact h

theorem bodyPost_mk {P : Program} {fn : Func} {Q : World → Prop} {v : Value} {a : Act} {w : World} (h : (results fn a.tmps).run P w = .ok v w) (hd : a.defers = []) (hq : Q w) : bodyPost P fn (fun e w' => e = .returned v ∧ Q w') Exit.ret a w := bodyPost_ret h hd ⟨rfl, hq⟩

set_option maxRecDepth 10000 in
set_option maxHeartbeats 1000000 in
theorem few_calls {w : World} {A : Option Addr} (nd : Int) (hd : Bool) (n c : Nat) (k : Int) (a : Nat) (hn : n ≤ c) (hc : n ≤ 281474976710656) (hA : 0 < n → ∃ b off, A = some ⟨b, off, none⟩) (ha : a ≤ 1000) :
    Calls Try.prog 30 #[.agg #[.int .i64 nd, .bool hd, .slice A n c], .int .i64 k, .int .i64 (a : Int)] w fun e w' => e = .returned (.agg #[.int .i64 (fewN nd k), .bool hd, .slice A (if a < n ∧ n ≤ 200 then a else n) c]) ∧ Below w.heap.size w w' := by
  have hN : (k < nd ∧ nd ≤ 50 ∧ fewN nd k = k) ∨ (¬ k < nd ∧ fewN nd k = nd) ∨ (k < nd ∧ ¬ nd ≤ 50 ∧ fewN nd k = nd) := by unfold fewN; split <;> omega
  have hL : ((a : Int) < (n : Int) ∧ (n : Int) ≤ 200 ∧ (if a < n ∧ n ≤ 200 then a else n) = a) ∨ (¬ (a : Int) < (n : Int) ∧ (if a < n ∧ n ≤ 200 then a else n) = n) ∨ ((a : Int) < (n : Int) ∧ ¬ (n : Int) ≤ 200 ∧ (if a < n ∧ n ≤ 200 then a else n) = n) := by split <;> omega
  rcases hN with ⟨q1, q2, e1⟩ | ⟨q1, e1⟩ | ⟨q1, q2, e1⟩ <;> rcases hL with ⟨q3, q4, e2⟩ | ⟨q3, e2⟩ | ⟨q3, q4, e2⟩
  all_goals
    rw [e1, e2]
    first | (have h0 : 0 < n := by omega
             obtain ⟨b, off, rfl⟩ := hA h0
             clear h0) | skip
    have q6 : n ≤ c := hn
    clear hA e1 e2
    go_enter Try.func30, Try.ntmps30
    go_wp2_with fail
    refine bodyPost_mk ?_ rfl two_new
    simp only [results, Try.results30]
    simp [go_sem]
end Go.Proofs.Ythbffhlfdjpfaaa
