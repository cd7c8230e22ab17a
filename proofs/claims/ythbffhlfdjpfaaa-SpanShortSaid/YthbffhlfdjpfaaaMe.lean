/- One round of the filling: the flow behind it, and the numbers. -/
import Derived.Test.YthbffhlfdjpfaaaMd
namespace Go.Proofs.Ythbffhlfdjpfaaa
set_option linter.unusedVariables false
set_option linter.unusedSimpArgs false

def goAll (f : List Int) (l : List Stp) (k : Int) : List Int := l.foldl (fun f st => goF f st k) f
theorem goF_len (f : List Int) (st : Stp) (k : Int) : (goF f st k).length = f.length := by simp [goF]
theorem goAll_len (f : List Int) (l : List Stp) (k : Int) : (goAll f l k).length = f.length := by
  induction l generalizing f with
  | nil => rfl
  | cons st l ih => simp only [goAll, List.foldl_cons] at ih ⊢; rw [ih, goF_len]
theorem fls_goF {f : List Int} {st : Stp} (h : st.arc < f.length) (k : Int) : fls (goF f st k) = push (fls f) st k := by
  funext i
  unfold goF push fls
  by_cases hi : i = st.arc
  · subst hi
    rw [if_pos rfl]
    simp [List.getD_eq_getElem?_getD, h]
  · rw [if_neg hi]
    simp [List.getD_eq_getElem?_getD, List.getElem?_set, Ne.symm hi]
theorem fls_goAll {f : List Int} {l : List Stp} (h : ∀ st, st ∈ l → st.arc < f.length) (k : Int) : fls (goAll f l k) = pushAll (fls f) l k := by
  induction l generalizing f with
  | nil => rfl
  | cons st l ih =>
    simp only [goAll, pushAll, List.foldl_cons] at ih ⊢
    rw [ih (fun x hx => by rw [goF_len]; exact h x (List.mem_cons_of_mem _ hx)), fls_goF (h st (List.mem_cons_self ..))]

theorem leastF_le {cap f : Nat → Int} (l : List Stp) : ∀ k : Int, leastF cap f k l ≤ k ∧ (∀ st, st ∈ l → leastF cap f k l ≤ room cap f st) := by
  induction l with
  | nil => intro k; simp [leastF]
  | cons x l ih =>
    intro k
    obtain ⟨h1, h2⟩ := ih (min k (room cap f x))
    have e : leastF cap f k (x :: l) = leastF cap f (min k (room cap f x)) l := rfl
    rw [e]
    refine ⟨by omega, fun st hst => ?_⟩
    rcases List.mem_cons.1 hst with rfl | hst
    · omega
    · exact h2 st hst
theorem leastF_pos {cap f : Nat → Int} (l : List Stp) : ∀ k : Int, 0 < k → (∀ st, st ∈ l → 0 < room cap f st) → 0 < leastF cap f k l := by
  induction l with
  | nil => intro k h _; exact h
  | cons x l ih =>
    intro k h hr
    have h1 := hr x (List.mem_cons_self ..)
    exact ih (min k (room cap f x)) (by omega) fun st hst => hr st (List.mem_cons_of_mem _ hst)
/-- the least room of a way -/
theorem least_way {cap f : Nat → Int} {l : List Stp} (h0 : 0 < l.length) (hr : ∀ st, st ∈ l → 0 < room cap f st) :
    0 < leastF cap f (room cap f (stp l 0)) l.tail ∧ ∀ st, st ∈ l → leastF cap f (room cap f (stp l 0)) l.tail ≤ room cap f st := by
  cases l with
  | nil => simp at h0
  | cons x l =>
    have e : stp (x :: l) 0 = x := rfl
    rw [e]
    obtain ⟨h1, h2⟩ := leastF_le (cap := cap) (f := f) l (room cap f x)
    refine ⟨leastF_pos l _ (hr x (List.mem_cons_self ..)) fun st hst => hr st (List.mem_cons_of_mem _ hst), fun st hst => ?_⟩
    rcases List.mem_cons.1 hst with rfl | hst
    · exact h1
    · exact h2 st hst

/-- a number above all -/
theorem above_all (N : Nat) (g : Int → Int) : ∃ C : Int, ∀ v, Nd N v → g v ≤ C := by
  induction N with
  | zero => exact ⟨0, fun v hv => by obtain ⟨h0, h1⟩ := hv; omega⟩
  | succ N ih =>
    obtain ⟨C, hC⟩ := ih
    refine ⟨max C (g (N : Int)), fun v hv => ?_⟩
    by_cases h : v = (N : Int)
    · subst h; omega
    · have := hC v ⟨hv.1, by have := hv.2; omega⟩
      omega

section
variable {m N : Nat} {fr tt cap f tm : Nat → Int} {p : Int → Int} {s t : Int} {D : Int → Int} {Is : Int → Bool} {By : Int → Stp}
theorem sfr_nd (hends : ∀ i, i < m → Nd N (fr i) ∧ Nd N (tt i)) {st : Stp} (h : st.arc < m) : Nd N (sfr fr tt st) := by
  unfold sfr; split
  · exact (hends _ h).2
  · exact (hends _ h).1
theorem sto_nd (hends : ∀ i, i < m → Nd N (fr i) ∧ Nd N (tt i)) {st : Stp} (h : st.arc < m) : Nd N (sto fr tt st) := by
  unfold sto; split
  · exact (hends _ h).1
  · exact (hends _ h).2

/-- the times reach over all nodes: numbers that are right, and where t is not come to as high there as is wished -/
theorem BFI.exts (h : BFI m N fr tt cap f tm s D Is By) (hp : Feas m fr tt cap f tm p) (hT : ∀ st, Ok m cap f st → Tt fr tt tm D Is st) (hends : ∀ i, i < m → Nd N (fr i) ∧ Nd N (tt i)) (htm : ∀ i, i < m → 0 ≤ tm i ∧ tm i ≤ 1048576) (t x : Int) :
    ∃ q, Feas m fr tt cap f tm q ∧ (∀ v, Is v = true → q v = D v) ∧ q s = 0 ∧ (Is t = false → x ≤ q t) := by
  obtain ⟨C1, h1⟩ := above_all N D
  obtain ⟨C2, h2⟩ := above_all N (fun v => - p v)
  refine ⟨ext D Is p (max (C1 + C2 + 1048576) (x - p t)), ext_feas hp hT ?_, fun v hv => by simp [ext, hv], by simp [ext, h.src, h.zero], fun ht => by simp only [ext, ht, Bool.false_eq_true, if_false]; omega⟩
  intro st ho _ _
  have a1 := h1 _ (sto_nd hends ho.1)
  have a2 := h2 _ (sfr_nd hends ho.1)
  have a3 := htm _ ho.1
  have a4 : - 1048576 ≤ stm tm st := by unfold stm; split <;> omega
  omega
end
end Go.Proofs.Ythbffhlfdjpfaaa
