/- Networks, ends and horizons with which nothing is wrong. -/
import Derived.Test.YthbffhlfdjpfaaaMg
import Derived.Test.YthbffhlfdjpfaaaW18
namespace Go.Proofs.Ythbffhlfdjpfaaa
set_option linter.unusedVariables false
set_option linter.unusedSimpArgs false

theorem arcE_zero {n : Int} {a : Arc} : arcE n a = 0 ↔ (0 ≤ a.fr ∧ a.fr < n) ∧ (0 ≤ a.to ∧ a.to < n) ∧ (0 ≤ a.cap ∧ a.cap ≤ 1048576) ∧ (0 ≤ a.tm ∧ a.tm ≤ 1048576) := by
  unfold arcE
  constructor
  · intro h
    split at h
    · omega
    · split at h
      · omega
      · omega
  · intro h
    rw [if_neg (by omega), if_neg (by omega)]
theorem arcsE_zero {n : Int} {L : List Arc} : arcsE n L = 0 ↔ ∀ a, a ∈ L → arcE n a = 0 := by
  induction L with
  | nil => simp [arcsE]
  | cons a l ih =>
    unfold arcsE
    by_cases h : arcE n a = 0
    · rw [if_neg (by simpa using h), ih]
      simp [h]
    · rw [if_pos h]
      constructor
      · intro h'; exact absurd h' h
      · intro h'; exact absurd (h' a (List.mem_cons_self ..)) h
theorem nodesE_zero {n : Int} : nodesE n = 0 ↔ 1 ≤ n ∧ n ≤ 50 := by
  unfold nodesE
  constructor
  · intro h
    split at h
    · omega
    · split at h <;> omega
  · intro h
    rw [if_neg (by omega), if_neg (by omega)]
/-- with a network of N nodes nothing is wrong -/
structure Right (L : List Arc) (N : Nat) : Prop where
  n0 : 0 < N
  n1 : N ≤ 50
  len : L.length ≤ 200
  arcs : ArcsOk L N
theorem netE_zero {n : Int} {L : List Arc} (h : netE n L = 0) : ∃ N : Nat, n = (N : Int) ∧ Right L N := by
  unfold netE at h
  by_cases h1 : nodesE n = 0
  · rw [if_neg (by simpa using h1)] at h
    by_cases h2 : 200 < L.length
    · rw [if_pos h2] at h; omega
    · rw [if_neg h2] at h
      have h3 := nodesE_zero.1 h1
      refine ⟨n.toNat, by omega, by omega, by omega, by omega, fun a ha => ?_⟩
      have h4 := arcE_zero.1 (arcsE_zero.1 h a ha)
      unfold Nd
      omega
  · rw [if_pos h1] at h; exact absurd h h1
theorem Right.netE {L : List Arc} {N : Nat} (h : Right L N) : netE (N : Int) L = 0 := by
  have h0 := h.n0
  have h1 := h.n1
  have h2 := h.len
  unfold Go.Proofs.Ythbffhlfdjpfaaa.netE
  rw [if_neg (by simp only [ne_eq, Decidable.not_not]; exact nodesE_zero.2 (by omega)), if_neg (by omega), arcsE_zero]
  intro a ha
  have h4 := h.arcs a ha
  unfold Nd at h4
  exact arcE_zero.2 (by omega)
theorem endsE_zero {n : Int} {L : List Arc} {s t : Int} (h : endsE n L s t = 0) : ∃ N : Nat, n = (N : Int) ∧ Right L N ∧ Nd N s ∧ Nd N t ∧ s ≠ t := by
  unfold endsE at h
  by_cases h1 : Go.Proofs.Ythbffhlfdjpfaaa.netE n L = 0
  · rw [if_neg (by simpa using h1)] at h
    obtain ⟨N, rfl, hR⟩ := netE_zero h1
    by_cases h2 : min s t < 0 ∨ (N : Int) ≤ max s t ∨ s = t
    · rw [if_pos h2] at h; omega
    · refine ⟨N, rfl, hR, ?_, ?_, by omega⟩ <;> unfold Nd <;> omega
  · rw [if_pos h1] at h; exact absurd h h1
theorem Right.endsE {L : List Arc} {N : Nat} (h : Right L N) {s t : Int} (hs : Nd N s) (ht : Nd N t) (hst : s ≠ t) : endsE (N : Int) L s t = 0 := by
  unfold Nd at hs ht
  unfold Go.Proofs.Ythbffhlfdjpfaaa.endsE
  rw [if_neg (by simpa using h.netE), if_neg (by omega)]
theorem horE_zero {h : Int} : horE h = 0 ↔ 0 ≤ h ∧ h ≤ 1024 := by
  unfold horE
  constructor
  · intro h
    split at h
    · omega
    · split at h <;> omega
  · intro h
    rw [if_neg (by omega), if_neg (by omega)]
theorem askedE_zero {n : Int} {L : List Arc} {s t h : Int} (e : askedE n L s t h = 0) : ∃ N : Nat, n = (N : Int) ∧ Right L N ∧ Nd N s ∧ Nd N t ∧ s ≠ t ∧ 0 ≤ h ∧ h ≤ 1024 := by
  unfold askedE at e
  by_cases h1 : Go.Proofs.Ythbffhlfdjpfaaa.endsE n L s t = 0
  · rw [if_neg (by simpa using h1)] at e
    obtain ⟨N, a, b, c, d, f⟩ := endsE_zero h1
    exact ⟨N, a, b, c, d, f, horE_zero.1 e⟩
  · rw [if_pos h1] at e; exact absurd e h1
theorem Right.askedE {L : List Arc} {N : Nat} (h : Right L N) {s t k : Int} (hs : Nd N s) (ht : Nd N t) (hst : s ≠ t) (hk : 0 ≤ k ∧ k ≤ 1024) : askedE (N : Int) L s t k = 0 := by
  unfold Go.Proofs.Ythbffhlfdjpfaaa.askedE
  rw [if_neg (by simpa using h.endsE hs ht hst)]
  exact horE_zero.2 hk
theorem Right.net {L : List Arc} {N : Nat} (h : Right L N) {f : List Int} (hl : f.length = L.length) (hf : IsFlow L.length (caps L) (fls f)) : Net L N f :=
  ⟨h.n0, h.n1, h.len, h.arcs.ends, h.arcs.cap, h.arcs.tm, hl, hf⟩
end Go.Proofs.Ythbffhlfdjpfaaa
