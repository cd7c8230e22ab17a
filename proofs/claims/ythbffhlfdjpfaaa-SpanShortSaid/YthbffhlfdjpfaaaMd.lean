/- One round of the filling: the way back along the tree is a tight way with room; numbers on the nodes behind the push. -/
import Derived.Test.YthbffhlfdjpfaaaW12
namespace Go.Proofs.Ythbffhlfdjpfaaa
set_option linter.unusedVariables false
set_option linter.unusedSimpArgs false

section
variable {m N : Nat} {fr tt cap f tm : Nat → Int} {p : Int → Int} {s : Int} {D : Int → Int} {Is : Int → Bool} {By : Int → Stp}

/-- a step along which the times are just right -/
def Tight (fr tt tm : Nat → Int) (D : Int → Int) (Is : Int → Bool) (st : Stp) : Prop := Is (sfr fr tt st) = true ∧ Is (sto fr tt st) = true ∧ D (sto fr tt st) = D (sfr fr tt st) + stm tm st

theorem BFI.back (h : BFI m N fr tt cap f tm s D Is By) (hT : ∀ st, Ok m cap f st → Tt fr tt tm D Is st) {n : Nat} {v : Int} (hv : Is v = true) (ha : Anc fr tt By s n v) :
    PathTo m fr tt cap f s (bkw fr tt By n v).reverse v ∧ (∀ st, st ∈ bkw fr tt By n v → Tight fr tt tm D Is st) ∧ (s :: ((bkw fr tt By n v).reverse.map (sto fr tt))) = (chN fr tt By n v).reverse := by
  induction n generalizing v with
  | zero =>
    have e : v = s := ha
    subst e
    exact ⟨⟨rfl, by simp [bkw]⟩, by simp [bkw], rfl⟩
  | succ n ih =>
    obtain ⟨h1, h2, h3, h4⟩ := h.par v hv ha.1
    obtain ⟨i1, i2, i3⟩ := ih h3 ha.2
    have h5 := i1.snoc h1
    rw [h2] at h5
    have h6 := hT _ h1 h3
    rw [h2] at h6
    refine ⟨by simpa [bkw] using h5, fun st hst => ?_, ?_⟩
    · rcases List.mem_cons.1 hst with rfl | hst
      · exact ⟨h3, by rw [h2]; exact hv, by rw [h2]; omega⟩
      · exact i2 st hst
    · simp only [bkw, chN, List.reverse_cons, List.map_append, List.map_cons, List.map_nil, h2]
      rw [← i3, List.cons_append]

theorem BFI.back_nodup (h : BFI m N fr tt cap f tm s D Is By) (hT : ∀ st, Ok m cap f st → Tt fr tt tm D Is st) {n : Nat} {v : Int} (hv : Is v = true) (ha : Anc fr tt By s n v) : ((bkw fr tt By n v).reverse.map (·.arc)).Nodup := by
  obtain ⟨h1, h2, h3⟩ := h.back hT hv ha
  exact arcs_nodup h1.1 (by rw [h3]; exact (List.reverse_perm _).nodup_iff.2 (chN_nodup ha))

/-- the times, and for nodes that are not come to the old numbers, C more -/
def ext (D : Int → Int) (Is : Int → Bool) (p : Int → Int) (C : Int) (v : Int) : Int := if Is v then D v else p v + C

theorem ext_feas (hp : Feas m fr tt cap f tm p) (hT : ∀ st, Ok m cap f st → Tt fr tt tm D Is st) {C : Int} (hC : ∀ st, Ok m cap f st → Is (sfr fr tt st) = false → Is (sto fr tt st) = true → D (sto fr tt st) ≤ p (sfr fr tt st) + C + stm tm st) : Feas m fr tt cap f tm (ext D Is p C) := by
  intro st ho
  have h1 := hp st ho
  have h2 := hT st ho
  have h3 := hC st ho
  unfold ext
  unfold Tt at h2
  cases e1 : Is (sfr fr tt st) <;> cases e2 : Is (sto fr tt st) <;> simp only [e1, e2, if_true, if_false, Bool.false_eq_true] at h2 h3 ⊢
  · omega
  · exact h3 trivial trivial
  · exact absurd (h2 trivial).1 (by simp)
  · exact (h2 trivial).2

/-- behind a push along tight steps the numbers are right still -/
theorem feas_push {q : Int → Int} (hq : Feas m fr tt cap f tm q) {l : List Stp} (hn : (l.map (·.arc)).Nodup) (ht : ∀ st, st ∈ l → Ok m cap f st ∧ q (sto fr tt st) = q (sfr fr tt st) + stm tm st) {k : Int} (hk : 0 ≤ k) : Feas m fr tt cap (pushAll f l k) tm q := by
  intro st ho
  by_cases hst : ∃ x, x ∈ l ∧ x.arc = st.arc
  · obtain ⟨x, hx, ha⟩ := hst
    obtain ⟨h1, h2⟩ := ht x hx
    obtain ⟨i, b⟩ := st
    obtain ⟨j, c⟩ := x
    simp only at ha
    subst ha
    by_cases hb : b = c
    · subst hb; omega
    · cases b <;> cases c <;> simp_all [sfr, sto, stm] <;> omega
  · have hoff : pushAll f l k st.arc = f st.arc := pushAll_off fun x hx e => hst ⟨x, hx, e⟩
    refine hq st ⟨ho.1, ?_⟩
    have := ho.2
    unfold room at this ⊢
    rw [hoff] at this
    exact this
end

theorem feas_min {m : Nat} {fr tt cap f tm : Nat → Int} {p q : Int → Int} (hp : Feas m fr tt cap f tm p) (hq : Feas m fr tt cap f tm q) (a b : Int) : Feas m fr tt cap f tm (fun v => min (p v + a) (q v + b)) := by
  intro st ho
  have h1 := hp st ho
  have h2 := hq st ho
  show min _ _ ≤ min _ _ + _
  omega
/-- numbers that rise just by h from s to t -/
theorem feas_just {m : Nat} {fr tt cap f tm : Nat → Int} {p q : Int → Int} {s t h : Int} (hp : Feas m fr tt cap f tm p) (hq : Feas m fr tt cap f tm q) (h1 : p t - p s ≤ h) (h2 : h ≤ q t - q s) : ∃ r, Feas m fr tt cap f tm r ∧ r t - r s = h := by
  refine ⟨_, feas_min hp hq (h - p t) (- q s), ?_⟩
  show min _ _ - min _ _ = _
  omega
end Go.Proofs.Ythbffhlfdjpfaaa
