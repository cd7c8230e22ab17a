/- What a flow is worth within a horizon: never more than numbers on the nodes say, and just so much where they are right. -/
import Derived.Test.YthbffhlfdjpfaaaMe
namespace Go.Proofs.Ythbffhlfdjpfaaa
set_option linter.unusedVariables false
set_option linter.unusedSimpArgs false

/-- how long all of a flow is on its way -/
def costOf (m : Nat) (tm f : Nat → Int) : Int := sumTo m fun i => f i * tm i
/-- what a flow is worth, H points of time long -/
def worthOf (m : Nat) (fr tt tm f : Nat → Int) (s H : Int) : Int := H * bal m fr tt f s - costOf m tm f
/-- what numbers on the nodes say -/
def dualOf (m : Nat) (fr tt cap tm : Nat → Int) (r : Int → Int) : Int := sumTo m fun i => cap i * max 0 (r (tt i) - r (fr i) - tm i)

section
variable {m N : Nat} {fr tt cap f tm : Nat → Int} {s t H : Int} {r : Int → Int}
theorem worth_pot (hends : ∀ i, i < m → Nd N (fr i) ∧ Nd N (tt i)) (hs : Nd N s) (ht : Nd N t) (hst : s ≠ t) (hb : Balanced m N fr tt s t f) (hr : r t - r s = H) :
    worthOf m fr tt tm f s H = sumTo m fun i => f i * (r (tt i) - r (fr i) - tm i) := by
  have h := pot_flow hends hs ht hst hb (fun v => - r v)
  have e : sumTo m (fun i => f i * (r (tt i) - r (fr i) - tm i)) = sumTo m (fun i => f i * (- r (fr i) - - r (tt i)) - f i * tm i) := by
    refine sumTo_congr fun i _ => ?_
    rw [← Int.mul_sub]
    congr 1
    omega
  rw [e, sumTo_sub, h, worthOf, costOf, show - r s - - r t = H by omega]

theorem worth_le_dual (hends : ∀ i, i < m → Nd N (fr i) ∧ Nd N (tt i)) (hs : Nd N s) (ht : Nd N t) (hst : s ≠ t) (hf : IsFlow m cap f) (hb : Balanced m N fr tt s t f) (hr : r t - r s = H) :
    worthOf m fr tt tm f s H ≤ dualOf m fr tt cap tm r := by
  rw [worth_pot hends hs ht hst hb hr]
  refine sumTo_le fun i hi => ?_
  have h1 := hf i hi
  generalize r (tt i) - r (fr i) - tm i = c
  rcases Int.le_total 0 c with h | h
  · rw [Int.max_eq_right h]
    exact Int.mul_le_mul_of_nonneg_right h1.2 h
  · rw [Int.max_eq_left h, Int.mul_zero]
    exact Int.mul_nonpos_of_nonneg_of_nonpos h1.1 h

theorem worth_eq_dual (hends : ∀ i, i < m → Nd N (fr i) ∧ Nd N (tt i)) (hs : Nd N s) (ht : Nd N t) (hst : s ≠ t) (hf : IsFlow m cap f) (hb : Balanced m N fr tt s t f) (hq : Feas m fr tt cap f tm r) (hr : r t - r s = H) :
    worthOf m fr tt tm f s H = dualOf m fr tt cap tm r := by
  rw [worth_pot hends hs ht hst hb hr]
  refine sumTo_congr fun i hi => ?_
  have h1 := hf i hi
  have h2 := hq ⟨i, false⟩
  have h3 := hq ⟨i, true⟩
  simp only [Ok, room, sfr, sto, stm, if_true, if_false, Bool.false_eq_true] at h2 h3
  obtain ⟨c, hc⟩ : ∃ c, r (tt i) - r (fr i) - tm i = c := ⟨_, rfl⟩
  rw [hc]
  rcases Int.lt_trichotomy c 0 with h | h | h
  · have e : f i = 0 := by
      by_cases h0 : 0 < f i
      · have := h3 ⟨hi, h0⟩; omega
      · omega
    rw [e, Int.max_eq_left (by omega)]; simp
  · subst h; simp
  · have e : f i = cap i := by
      by_cases h0 : 0 < cap i - f i
      · have := h2 ⟨hi, h0⟩; omega
      · omega
    rw [e, Int.max_eq_right (by omega)]

theorem dual_nonneg (hc : ∀ i, i < m → 0 ≤ cap i) : 0 ≤ dualOf m fr tt cap tm r :=
  sumTo_nonneg fun i hi => Int.mul_nonneg (hc i hi) (by omega)
theorem cost_nonneg (hf : IsFlow m cap f) (ht : ∀ i, i < m → 0 ≤ tm i) : 0 ≤ costOf m tm f := sumTo_nonneg fun i hi => Int.mul_nonneg (hf i hi).1 (ht i hi)
end

/-- a flow that is worth most -/
structure Bst (m N : Nat) (fr tt cap tm : Nat → Int) (s t H : Int) (f : Nat → Int) : Prop where
  flow : IsFlow m cap f
  bal : Balanced m N fr tt s t f
  just : ∃ r, Feas m fr tt cap f tm r ∧ r t - r s = H

section
variable {m N : Nat} {fr tt cap f g tm : Nat → Int} {s t H : Int}
theorem Bst.most (h : Bst m N fr tt cap tm s t H f) (hends : ∀ i, i < m → Nd N (fr i) ∧ Nd N (tt i)) (hs : Nd N s) (ht : Nd N t) (hst : s ≠ t) (hg : IsFlow m cap g) (hb : Balanced m N fr tt s t g) :
    worthOf m fr tt tm g s H ≤ worthOf m fr tt tm f s H := by
  obtain ⟨r, h1, h2⟩ := h.just
  rw [worth_eq_dual hends hs ht hst h.flow h.bal h1 h2]
  exact worth_le_dual hends hs ht hst hg hb h2
theorem Bst.same (h : Bst m N fr tt cap tm s t H f) (h' : Bst m N fr tt cap tm s t H g) (hends : ∀ i, i < m → Nd N (fr i) ∧ Nd N (tt i)) (hs : Nd N s) (ht : Nd N t) (hst : s ≠ t) :
    worthOf m fr tt tm g s H = worthOf m fr tt tm f s H :=
  Int.le_antisymm (h.most hends hs ht hst h'.flow h'.bal) (h'.most hends hs ht hst h.flow h.bal)
theorem Bst.nonneg (h : Bst m N fr tt cap tm s t H f) (hends : ∀ i, i < m → Nd N (fr i) ∧ Nd N (tt i)) (hs : Nd N s) (ht : Nd N t) (hst : s ≠ t) : 0 ≤ worthOf m fr tt tm f s H := by
  obtain ⟨r, h1, h2⟩ := h.just
  rw [worth_eq_dual hends hs ht hst h.flow h.bal h1 h2]
  exact dual_nonneg fun i hi => by have := h.flow i hi; omega
end
end Go.Proofs.Ythbffhlfdjpfaaa
