/- Greater horizons, arcs that take longer than the horizon, arcs that take no time: what a flow is worth there. -/
import Derived.Test.YthbffhlfdjpfaaaMf
namespace Go.Proofs.Ythbffhlfdjpfaaa
set_option linter.unusedVariables false
set_option linter.unusedSimpArgs false

def sumL (G : Arc → Int) (L : List Arc) : Int := (L.map G).sum
theorem sumL_cons (G : Arc → Int) (a : Arc) (L : List Arc) : sumL G (a :: L) = G a + sumL G L := by simp [sumL]
theorem sumL_nil (G : Arc → Int) : sumL G [] = 0 := rfl
theorem sumTo_shift (m : Nat) (g : Nat → Int) : sumTo (m + 1) g = g 0 + sumTo m (fun i => g (i + 1)) := by
  induction m with
  | zero => simp [sumTo]
  | succ m ih => rw [sumTo, ih, sumTo]; omega
theorem sumTo_list (G : Arc → Int) (L : List Arc) : sumTo L.length (fun i => G (L.getD i default)) = sumL G L := by
  induction L with
  | nil => rfl
  | cons a l ih => rw [List.length_cons, sumTo_shift, sumL_cons, ← ih]; rfl

def dualL (L : List Arc) (r : Int → Int) : Int := sumL (fun a => a.cap * max 0 (r a.to - r a.fr - a.tm)) L
theorem dual_list (L : List Arc) (r : Int → Int) : dualOf L.length (frs L) (tos L) (caps L) (tms L) r = dualL L r :=
  sumTo_list (fun a => a.cap * max 0 (r a.to - r a.fr - a.tm)) L

theorem dualL_filter (L : List Arc) (P : Arc → Bool) (r : Int → Int) (hc : ∀ a, a ∈ L → 0 ≤ a.cap) : dualL (L.filter P) r ≤ dualL L r := by
  induction L with
  | nil => exact Int.le_refl _
  | cons a l ih =>
    have h1 := ih fun x hx => hc x (List.mem_cons_of_mem _ hx)
    have h2 : 0 ≤ a.cap * max 0 (r a.to - r a.fr - a.tm) := Int.mul_nonneg (hc a (List.mem_cons_self ..)) (by omega)
    unfold dualL at h1 ⊢
    by_cases hp : P a = true
    · rw [List.filter_cons_of_pos hp, sumL_cons, sumL_cons]; omega
    · rw [List.filter_cons_of_neg hp, sumL_cons]; omega

/-- numbers kept between 0 and H -/
def clamp (r : Int → Int) (s H : Int) (v : Int) : Int := max 0 (min (r v - r s) H)
theorem clamp_src (r : Int → Int) {s H : Int} (h : 0 ≤ H) : clamp r s H s = 0 := by unfold clamp; omega
theorem clamp_sink (r : Int → Int) {s t H : Int} (h : 0 ≤ H) (hr : r t - r s = H) : clamp r s H t = H := by unfold clamp; omega

theorem dualL_clamp (L : List Arc) (r : Int → Int) (s h : Int) (h0 : 0 ≤ h) (hc : ∀ a, a ∈ L → 0 ≤ a.cap ∧ 0 ≤ a.tm) : dualL L (clamp r s (h + 1)) ≤ dualL (L.filter fun a => decide (a.tm ≤ h)) r := by
  induction L with
  | nil => exact Int.le_refl _
  | cons a l ih =>
    have h1 := ih fun x hx => hc x (List.mem_cons_of_mem _ hx)
    obtain ⟨h2, h3⟩ := hc a (List.mem_cons_self ..)
    unfold dualL at h1 ⊢
    by_cases hp : a.tm ≤ h
    · rw [List.filter_cons_of_pos (by simpa using hp), sumL_cons, sumL_cons]
      have h4 : max 0 (clamp r s (h + 1) a.to - clamp r s (h + 1) a.fr - a.tm) ≤ max 0 (r a.to - r a.fr - a.tm) := by unfold clamp; omega
      have h5 := Int.mul_le_mul_of_nonneg_left h4 h2
      omega
    · rw [List.filter_cons_of_neg (by simpa using hp), sumL_cons]
      have h4 : max 0 (clamp r s (h + 1) a.to - clamp r s (h + 1) a.fr - a.tm) = 0 := by unfold clamp; omega
      rw [h4]
      omega

theorem mem_get {L : List Arc} {a : Arc} (h : a ∈ L) : ∃ i, i < L.length ∧ frs L i = a.fr ∧ tos L i = a.to ∧ caps L i = a.cap ∧ tms L i = a.tm := by
  obtain ⟨i, hi, e⟩ := List.getElem_of_mem h
  have e' : L.getD i default = a := by simp [List.getD_eq_getElem?_getD, List.getElem?_eq_getElem hi, e]
  exact ⟨i, hi, by rw [frs, e'], by rw [tos, e'], by rw [caps, e'], by rw [tms, e']⟩
theorem get_mem (L : List Arc) {i : Nat} (h : i < L.length) : (⟨frs L i, tos L i, caps L i, tms L i⟩ : Arc) ∈ L := by
  have e : L.getD i default = L[i] := by simp [List.getD_eq_getElem?_getD, List.getElem?_eq_getElem h]
  have : (⟨frs L i, tos L i, caps L i, tms L i⟩ : Arc) = L[i] := by simp only [frs, tos, caps, tms, e]
  rw [this]
  exact List.getElem_mem h

/-- what is so at each place of a list of arcs -/
def ArcsOk (L : List Arc) (N : Nat) : Prop := ∀ a, a ∈ L → (Nd N a.fr ∧ Nd N a.to) ∧ (0 ≤ a.cap ∧ a.cap ≤ 1048576) ∧ (0 ≤ a.tm ∧ a.tm ≤ 1048576)
theorem ArcsOk.ends {L : List Arc} {N : Nat} (h : ArcsOk L N) : ∀ i, i < L.length → Nd N (frs L i) ∧ Nd N (tos L i) := fun _ hi => (h _ (get_mem L hi)).1
theorem ArcsOk.cap {L : List Arc} {N : Nat} (h : ArcsOk L N) : ∀ i, i < L.length → 0 ≤ caps L i ∧ caps L i ≤ 1048576 := fun _ hi => (h _ (get_mem L hi)).2.1
theorem ArcsOk.tm {L : List Arc} {N : Nat} (h : ArcsOk L N) : ∀ i, i < L.length → 0 ≤ tms L i ∧ tms L i ≤ 1048576 := fun _ hi => (h _ (get_mem L hi)).2.2

/-- arcs that take longer than the horizon change nothing -/
theorem short_worth {L : List Arc} {N : Nat} {s t h : Int} {f g : Nat → Int} (hL : ArcsOk L N) (h0 : 0 ≤ h) (hs : Nd N s) (ht : Nd N t) (hst : s ≠ t)
    (hf : Bst L.length N (frs L) (tos L) (caps L) (tms L) s t (h + 1) f)
    (hg : Bst (L.filter fun a => decide (a.tm ≤ h)).length N (frs (L.filter fun a => decide (a.tm ≤ h))) (tos (L.filter fun a => decide (a.tm ≤ h))) (caps (L.filter fun a => decide (a.tm ≤ h))) (tms (L.filter fun a => decide (a.tm ≤ h))) s t (h + 1) g) :
    worthOf L.length (frs L) (tos L) (tms L) f s (h + 1) = worthOf (L.filter fun a => decide (a.tm ≤ h)).length (frs (L.filter fun a => decide (a.tm ≤ h))) (tos (L.filter fun a => decide (a.tm ≤ h))) (tms (L.filter fun a => decide (a.tm ≤ h))) g s (h + 1) := by
  have hM : ArcsOk (L.filter fun a => decide (a.tm ≤ h)) N := fun a ha => hL a (List.mem_filter.1 ha).1
  obtain ⟨r, r1, r2⟩ := hf.just
  obtain ⟨q, q1, q2⟩ := hg.just
  refine Int.le_antisymm ?_ ?_
  · rw [worth_eq_dual hM.ends hs ht hst hg.flow hg.bal q1 q2, dual_list]
    refine Int.le_trans (worth_le_dual (r := clamp q s (h + 1)) hL.ends hs ht hst hf.flow hf.bal (by rw [clamp_src q (by omega), clamp_sink q (by omega) q2]; omega)) ?_
    rw [dual_list]
    exact dualL_clamp L q s h h0 fun a ha => ⟨(hL a ha).2.1.1, (hL a ha).2.2.1⟩
  · rw [worth_eq_dual hL.ends hs ht hst hf.flow hf.bal r1 r2, dual_list]
    refine Int.le_trans (worth_le_dual (r := r) hM.ends hs ht hst hg.flow hg.bal r2) ?_
    rw [dual_list]
    exact dualL_filter L _ r fun a ha => (hL a ha).2.1.1

section
variable {m N : Nat} {fr tt cap f g k tm : Nat → Int} {s t H : Int}
theorem worth_succ (m : Nat) (fr tt tm f : Nat → Int) (s H : Int) : worthOf m fr tt tm f s (H + 1) = worthOf m fr tt tm f s H + bal m fr tt f s := by
  unfold worthOf; rw [Int.add_mul]; omega

/-- a greatest flow -/
structure Mx (m N : Nat) (fr tt cap : Nat → Int) (s t : Int) (f : Nat → Int) : Prop where
  flow : IsFlow m cap f
  bal : Balanced m N fr tt s t f
  no : ¬ Rch m fr tt cap f s t

theorem bst_val (h : Bst m N fr tt cap tm s t H f) (hends : ∀ i, i < m → Nd N (fr i) ∧ Nd N (tt i)) (hs : Nd N s) (ht : Nd N t) (hst : s ≠ t) (h0 : 0 < H) (htm : ∀ i, i < m → 0 ≤ tm i) : 0 ≤ bal m fr tt f s := by
  have h1 := h.nonneg hends hs ht hst
  have h2 := cost_nonneg h.flow htm
  unfold worthOf at h1
  by_cases h3 : 0 ≤ bal m fr tt f s
  · exact h3
  · have := Int.mul_neg_of_pos_of_neg h0 (show bal m fr tt f s < 0 by omega)
    omega

theorem span_grows (hf : Bst m N fr tt cap tm s t H f) (hg : Bst m N fr tt cap tm s t (H + 1) g) (hk : Bst m N fr tt cap tm s t (H + 2) k) {x : Nat → Int} (hx : Mx m N fr tt cap s t x)
    (hends : ∀ i, i < m → Nd N (fr i) ∧ Nd N (tt i)) (hs : Nd N s) (ht : Nd N t) (hst : s ≠ t) (h0 : 0 < H) (htm : ∀ i, i < m → 0 ≤ tm i) :
    worthOf m fr tt tm f s H ≤ worthOf m fr tt tm g s (H + 1) ∧ worthOf m fr tt tm g s (H + 1) - worthOf m fr tt tm f s H ≤ worthOf m fr tt tm k s (H + 2) - worthOf m fr tt tm g s (H + 1) ∧
      worthOf m fr tt tm k s (H + 2) - worthOf m fr tt tm g s (H + 1) ≤ Go.Proofs.Ythbffhlfdjpfaaa.bal m fr tt x s := by
  have a1 := hg.most hends hs ht hst hf.flow hf.bal
  have a2 := hf.most hends hs ht hst hg.flow hg.bal
  have a3 := hk.most hends hs ht hst hg.flow hg.bal
  have a4 := hg.most hends hs ht hst hk.flow hk.bal
  have a5 := max_flow hends hs ht hst hx.flow hx.bal hx.no hk.flow hk.bal
  have a6 := bst_val hf hends hs ht hst h0 htm
  rw [show H + 2 = H + 1 + 1 by omega] at *
  have b1 := worth_succ m fr tt tm f s H
  have b2 := worth_succ m fr tt tm g s H
  have b3 := worth_succ m fr tt tm g s (H + 1)
  have b4 := worth_succ m fr tt tm k s (H + 1)
  omega

theorem span_still (hf : Bst m N fr tt cap tm s t H f) {x : Nat → Int} (hx : Mx m N fr tt cap s t x) (hends : ∀ i, i < m → Nd N (fr i) ∧ Nd N (tt i)) (hs : Nd N s) (ht : Nd N t) (hst : s ≠ t) (h0 : 0 < H) (htm : ∀ i, i < m → tm i = 0) :
    worthOf m fr tt tm f s H = H * Go.Proofs.Ythbffhlfdjpfaaa.bal m fr tt x s := by
  have e : ∀ g : Nat → Int, costOf m tm g = 0 := fun g => sumTo_zero fun i hi => by rw [htm i hi]; simp
  have a1 := hf.most hends hs ht hst hx.flow hx.bal
  have a2 := max_flow hends hs ht hst hx.flow hx.bal hx.no hf.flow hf.bal
  unfold worthOf at a1 ⊢
  rw [e, e] at a1
  rw [e]
  have a3 := Int.mul_le_mul_of_nonneg_left a2 (show 0 ≤ H by omega)
  omega
end
end Go.Proofs.Ythbffhlfdjpfaaa
