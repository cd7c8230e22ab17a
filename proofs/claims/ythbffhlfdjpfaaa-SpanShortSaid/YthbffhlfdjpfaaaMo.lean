/- The most that flows are worth, as a number; of the network that the statements ask first. -/
import Derived.Test.YthbffhlfdjpfaaaMn
namespace Go.Proofs.Ythbffhlfdjpfaaa
set_option linter.unusedVariables false
set_option linter.unusedSimpArgs false

/-- k is the most that a flow is worth, H points of time long -/
def MostIs (L : List Arc) (N : Nat) (s t H k : Int) : Prop := ∃ f : Nat → Int, Bst L.length N (frs L) (tos L) (caps L) (tms L) s t H f ∧ k = worthOf L.length (frs L) (tos L) (tms L) f s H
theorem MostIs.uniq {L : List Arc} {N : Nat} {s t H k j : Int} (h : MostIs L N s t H k) (h' : MostIs L N s t H j) (hL : ArcsOk L N) (hs : Nd N s) (ht : Nd N t) (hst : s ≠ t) : k = j := by
  obtain ⟨f, a, rfl⟩ := h
  obtain ⟨g, b, rfl⟩ := h'
  exact b.same a hL.ends hs ht hst
theorem MostIs.nonneg {L : List Arc} {N : Nat} {s t H k : Int} (h : MostIs L N s t H k) (hL : ArcsOk L N) (hs : Nd N s) (ht : Nd N t) (hst : s ≠ t) : 0 ≤ k := by
  obtain ⟨f, a, rfl⟩ := h
  exact a.nonneg hL.ends hs ht hst

/-- two arcs, one behind the other -/
def twoL : List Arc := [⟨0, 1, 2, 1⟩, ⟨1, 2, 2, 1⟩]
theorem twoL_ok : ArcsOk twoL 3 := by
  intro a ha
  simp only [twoL, List.mem_cons, List.not_mem_nil, or_false] at ha
  rcases ha with rfl | rfl <;> simp [Nd]
theorem twoL_right : Right twoL 3 := ⟨by omega, by omega, by simp [twoL], twoL_ok⟩
theorem twoL_len : twoL.length = 2 := rfl
theorem twoL_worth {f : Nat → Int} (hb : Balanced 2 3 (frs twoL) (tos twoL) 0 2 f) (H : Int) : worthOf 2 (frs twoL) (tos twoL) (tms twoL) f 0 H = H * f 0 - 2 * f 0 := by
  have h1 := hb 1 ⟨by omega, by omega⟩ (by omega) (by omega)
  simp [bal, sumTo, frs, tos, twoL] at h1
  simp [worthOf, costOf, bal, sumTo, frs, tos, tms, twoL]
  omega
theorem twoL_one {k : Int} (h : MostIs twoL 3 0 2 2 k) : k = 0 := by
  obtain ⟨f, hf, rfl⟩ := h
  have := twoL_worth hf.bal 2
  rw [twoL_len, this]
  omega
theorem twoL_five {k : Int} (h : MostIs twoL 3 0 2 6 k) : k = 8 := by
  obtain ⟨f, hf, rfl⟩ := h
  have h1 := twoL_worth hf.bal 6
  have h2 := hf.flow 0 (by simp [twoL])
  simp [caps, twoL] at h2
  have hg : Balanced 2 3 (frs twoL) (tos twoL) 0 2 (fun _ => 2) := by
    intro v hv h1 h2
    have : v = 1 := by obtain ⟨a, b⟩ := hv; omega
    subst this
    simp [bal, sumTo, frs, tos, twoL]
  have h3 := hf.most (g := fun _ => 2) twoL_ok.ends ⟨by omega, by omega⟩ ⟨by omega, by omega⟩ (by omega) (fun i hi => by
    simp only [twoL_len] at hi
    rcases Nat.lt_or_ge i 1 with h | h
    · have : i = 0 := by omega
      subst this; simp [caps, twoL]
    · have : i = 1 := by omega
      subst this; simp [caps, twoL]) hg
  have h4 := twoL_worth hg 6
  rw [twoL_len] at *
  rw [h1, h4] at h3
  rw [h1]
  omega
end Go.Proofs.Ythbffhlfdjpfaaa
