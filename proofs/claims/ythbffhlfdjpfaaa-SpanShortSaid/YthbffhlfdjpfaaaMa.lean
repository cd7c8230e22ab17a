/- Sums over 0..m-1, networks as functions of an arc's place, cuts and potentials; no condition. -/
namespace Go.Proofs.Ythbffhlfdjpfaaa
set_option linter.unusedVariables false
set_option linter.unusedSimpArgs false

def sumTo : Nat → (Nat → Int) → Int
  | 0, _ => 0
  | m + 1, g => sumTo m g + g m

theorem sumTo_congr {m : Nat} {g h : Nat → Int} (e : ∀ i, i < m → g i = h i) : sumTo m g = sumTo m h := by
  induction m with
  | zero => rfl
  | succ m ih => rw [sumTo, sumTo, ih (fun i hi => e i (by omega)), e m (by omega)]

theorem sumTo_zero {m : Nat} {g : Nat → Int} (e : ∀ i, i < m → g i = 0) : sumTo m g = 0 := by
  induction m with
  | zero => rfl
  | succ m ih => rw [sumTo, ih (fun i hi => e i (by omega)), e m (by omega)]; rfl

theorem sumTo_add (m : Nat) (g h : Nat → Int) : sumTo m (fun i => g i + h i) = sumTo m g + sumTo m h := by
  induction m with
  | zero => rfl
  | succ m ih => simp only [sumTo, ih]; omega

theorem sumTo_sub (m : Nat) (g h : Nat → Int) : sumTo m (fun i => g i - h i) = sumTo m g - sumTo m h := by
  induction m with
  | zero => rfl
  | succ m ih => simp only [sumTo, ih]; omega

theorem sumTo_mul (m : Nat) (c : Int) (g : Nat → Int) : sumTo m (fun i => c * g i) = c * sumTo m g := by
  induction m with
  | zero => simp [sumTo]
  | succ m ih => simp only [sumTo, ih, Int.mul_add]

theorem sumTo_le {m : Nat} {g h : Nat → Int} (e : ∀ i, i < m → g i ≤ h i) : sumTo m g ≤ sumTo m h := by
  induction m with
  | zero => exact Int.le_refl _
  | succ m ih => have := ih (fun i hi => e i (by omega)); have := e m (by omega); simp only [sumTo]; omega

theorem sumTo_nonneg {m : Nat} {g : Nat → Int} (e : ∀ i, i < m → 0 ≤ g i) : 0 ≤ sumTo m g := by
  have := sumTo_le (m := m) (g := fun _ => 0) (h := g) e
  rwa [sumTo_zero (fun _ _ => rfl)] at this

theorem sumTo_comm (m n : Nat) (g : Nat → Nat → Int) : sumTo m (fun i => sumTo n (fun j => g i j)) = sumTo n (fun j => sumTo m (fun i => g i j)) := by
  induction m with
  | zero => simp only [sumTo]; rw [sumTo_zero (fun _ _ => rfl)]
  | succ m ih => simp only [sumTo]; rw [ih, ← sumTo_add]

theorem sumTo_single {n : Nat} {j : Nat} (hj : j < n) (c : Nat → Int) : sumTo n (fun i => if i = j then c i else 0) = c j := by
  induction n with
  | zero => omega
  | succ n ih =>
    simp only [sumTo]
    by_cases h : j = n
    · subst h
      rw [if_pos rfl, sumTo_zero (fun i hi => if_neg (by omega))]; omega
    · rw [ih (by omega), if_neg (by omega)]; omega

/-- a sum of which one place alone counts -/
theorem sumTo_one {n : Nat} {j : Nat} (hj : j < n) (g : Nat → Int) (h0 : ∀ i, i < n → i ≠ j → g i = 0) : sumTo n g = g j := by
  rw [← sumTo_single hj g]
  exact sumTo_congr fun i hi => by
    by_cases h : i = j
    · rw [if_pos h]
    · rw [if_neg h, h0 i hi h]

theorem sumTo_two {n : Nat} {j k : Nat} (hj : j < n) (hk : k < n) (hjk : j ≠ k) (g : Nat → Int) (h0 : ∀ i, i < n → i ≠ j → i ≠ k → g i = 0) : sumTo n g = g j + g k := by
  have e : sumTo n g = sumTo n (fun i => (if i = j then g i else 0) + (if i = k then g i else 0)) := sumTo_congr fun i hi => by
    by_cases h : i = j
    · subst h; rw [if_pos rfl, if_neg hjk]; omega
    · by_cases h' : i = k
      · subst h'; rw [if_neg h, if_pos rfl]; omega
      · rw [if_neg h, if_neg h', h0 i hi h h']; rfl
  rw [e, sumTo_add, sumTo_single hj, sumTo_single hk]

/-- how much more leaves v than comes -/
def bal (m : Nat) (fr to f : Nat → Int) (v : Int) : Int := sumTo m fun i => (if fr i = v then f i else 0) - (if to i = v then f i else 0)

/-- a node -/
def Nd (N : Nat) (v : Int) : Prop := 0 ≤ v ∧ v < N

theorem sum_at {N : Nat} {u : Int} (hu : Nd N u) (p : Int → Int) (x : Int) : sumTo N (fun v => p (v : Int) * (if u = (v : Int) then x else 0)) = p u * x := by
  obtain ⟨h0, h1⟩ := hu
  rw [sumTo_one (j := u.toNat) (by omega)]
  · rw [if_pos (by omega)]; congr 2; omega
  · intro i _ hne; rw [if_neg (by omega)]; simp

theorem pot_sum {m N : Nat} {fr to f : Nat → Int} (hends : ∀ i, i < m → Nd N (fr i) ∧ Nd N (to i)) (p : Int → Int) :
    sumTo N (fun v => p (v : Int) * bal m fr to f (v : Int)) = sumTo m (fun i => f i * (p (fr i) - p (to i))) := by
  have e : ∀ v, v < N → p (v : Int) * bal m fr to f (v : Int) = sumTo m (fun i => p (v : Int) * (if fr i = (v : Int) then f i else 0) - p (v : Int) * (if to i = (v : Int) then f i else 0)) := by
    intro v _
    rw [bal, ← sumTo_mul]
    exact sumTo_congr fun i _ => Int.mul_sub _ _ _
  rw [sumTo_congr e, sumTo_comm]
  refine sumTo_congr fun i hi => ?_
  rw [sumTo_sub, sum_at (hends i hi).1, sum_at (hends i hi).2, Int.mul_sub, Int.mul_comm (f i), Int.mul_comm (f i)]

theorem bal_sum {m N : Nat} {fr to f : Nat → Int} (hends : ∀ i, i < m → Nd N (fr i) ∧ Nd N (to i)) : sumTo N (fun v => bal m fr to f (v : Int)) = 0 := by
  have h := pot_sum (f := f) hends (fun _ => 1)
  simp only [Int.one_mul] at h
  rw [h]
  exact sumTo_zero fun i _ => by simp

/-- all nodes but two are balanced -/
def Balanced (m N : Nat) (fr to : Nat → Int) (s t : Int) (f : Nat → Int) : Prop := ∀ v, Nd N v → v ≠ s → v ≠ t → bal m fr to f v = 0

theorem bal_ends {m N : Nat} {fr to f : Nat → Int} (hends : ∀ i, i < m → Nd N (fr i) ∧ Nd N (to i)) {s t : Int} (hs : Nd N s) (ht : Nd N t) (hst : s ≠ t)
    (hb : Balanced m N fr to s t f) : bal m fr to f s + bal m fr to f t = 0 := by
  have h := bal_sum (f := f) hends
  obtain ⟨s0, s1⟩ := hs
  obtain ⟨t0, t1⟩ := ht
  rw [sumTo_two (j := s.toNat) (k := t.toNat) (by omega) (by omega) (by omega)] at h
  · rw [show ((s.toNat : Nat) : Int) = s by omega, show ((t.toNat : Nat) : Int) = t by omega] at h; exact h
  · intro i hi h1 h2
    exact hb _ ⟨by omega, by omega⟩ (by omega) (by omega)

theorem pot_flow {m N : Nat} {fr to f : Nat → Int} (hends : ∀ i, i < m → Nd N (fr i) ∧ Nd N (to i)) {s t : Int} (hs : Nd N s) (ht : Nd N t) (hst : s ≠ t)
    (hb : Balanced m N fr to s t f) (p : Int → Int) : sumTo m (fun i => f i * (p (fr i) - p (to i))) = (p s - p t) * bal m fr to f s := by
  have hz := bal_ends hends hs ht hst hb
  rw [← pot_sum hends]
  obtain ⟨s0, s1⟩ := hs
  obtain ⟨t0, t1⟩ := ht
  rw [sumTo_two (j := s.toNat) (k := t.toNat) (by omega) (by omega) (by omega)]
  · rw [show ((s.toNat : Nat) : Int) = s by omega, show ((t.toNat : Nat) : Int) = t by omega, show bal m fr to f t = - bal m fr to f s by omega, Int.sub_mul, Int.mul_neg]; omega
  · intro i hi h1 h2
    rw [hb _ ⟨by omega, by omega⟩ (by omega) (by omega)]; simp

/-- the capacity of a side -/
def capOf (m : Nat) (fr to cap : Nat → Int) (S : Int → Bool) : Int := sumTo m fun i => if S (fr i) && !S (to i) then cap i else 0

def ind (S : Int → Bool) (v : Int) : Int := if S v then 1 else 0

def IsFlow (m : Nat) (cap f : Nat → Int) : Prop := ∀ i, i < m → 0 ≤ f i ∧ f i ≤ cap i

theorem side_flow {m N : Nat} {fr to f : Nat → Int} (hends : ∀ i, i < m → Nd N (fr i) ∧ Nd N (to i)) {s t : Int} (hs : Nd N s) (ht : Nd N t) (hst : s ≠ t)
    (hb : Balanced m N fr to s t f) {S : Int → Bool} (hS : S s = true) (hT : S t = false) : bal m fr to f s = sumTo m (fun i => f i * (ind S (fr i) - ind S (to i))) := by
  rw [pot_flow hends hs ht hst hb (ind S)]
  simp [ind, hS, hT]

theorem flow_le_cap {m N : Nat} {fr to cap f : Nat → Int} (hends : ∀ i, i < m → Nd N (fr i) ∧ Nd N (to i)) {s t : Int} (hs : Nd N s) (ht : Nd N t) (hst : s ≠ t)
    (hf : IsFlow m cap f) (hb : Balanced m N fr to s t f) {S : Int → Bool} (hS : S s = true) (hT : S t = false) : bal m fr to f s ≤ capOf m fr to cap S := by
  rw [side_flow hends hs ht hst hb hS hT]
  refine sumTo_le fun i hi => ?_
  have := hf i hi
  cases h1 : S (fr i) <;> cases h2 : S (to i) <;> simp [ind, h1, h2] <;> omega

theorem flow_eq_cap {m N : Nat} {fr to cap f : Nat → Int} (hends : ∀ i, i < m → Nd N (fr i) ∧ Nd N (to i)) {s t : Int} (hs : Nd N s) (ht : Nd N t) (hst : s ≠ t)
    (hb : Balanced m N fr to s t f) {S : Int → Bool} (hS : S s = true) (hT : S t = false)
    (h1 : ∀ i, i < m → S (fr i) = true → S (to i) = false → f i = cap i) (h2 : ∀ i, i < m → S (fr i) = false → S (to i) = true → f i = 0) : bal m fr to f s = capOf m fr to cap S := by
  rw [side_flow hends hs ht hst hb hS hT]
  refine sumTo_congr fun i hi => ?_
  have a := h1 i hi
  have b := h2 i hi
  cases c1 : S (fr i) <;> cases c2 : S (to i) <;> simp_all [ind]

/-- what a flow that takes just a side's capacity looks like there -/
theorem tight_side {m N : Nat} {fr to cap f : Nat → Int} (hends : ∀ i, i < m → Nd N (fr i) ∧ Nd N (to i)) {s t : Int} (hs : Nd N s) (ht : Nd N t) (hst : s ≠ t)
    (hf : IsFlow m cap f) (hb : Balanced m N fr to s t f) {S : Int → Bool} (hS : S s = true) (hT : S t = false) (he : capOf m fr to cap S ≤ bal m fr to f s) :
    ∀ i, i < m → (S (fr i) = true → S (to i) = false → f i = cap i) ∧ (S (fr i) = false → S (to i) = true → f i = 0) := by
  have hle : ∀ i, i < m → f i * (ind S (fr i) - ind S (to i)) ≤ (if S (fr i) && !S (to i) then cap i else 0) := by
    intro i hi
    have := hf i hi
    cases h1 : S (fr i) <;> cases h2 : S (to i) <;> simp [ind, h1, h2] <;> omega
  rw [side_flow hends hs ht hst hb hS hT, capOf] at he
  have key : ∀ (n : Nat) (g h : Nat → Int), (∀ i, i < n → g i ≤ h i) → sumTo n h ≤ sumTo n g → ∀ i, i < n → g i = h i := by
    intro n
    induction n with
    | zero => intro g h _ _ i hi; omega
    | succ n ih =>
      intro g h hle hs i hi
      have hl := sumTo_le (m := n) (fun i hi => hle i (by omega))
      have hn := hle n (by omega)
      simp only [sumTo] at hs
      by_cases hin : i = n
      · subst hin; omega
      · exact ih g h (fun i hi => hle i (by omega)) (by omega) i (by omega)
  intro i hi
  have h := key m _ _ hle he i hi
  constructor
  · intro h1 h2; simp [ind, h1, h2] at h; exact h
  · intro h1 h2; simp [ind, h1, h2] at h; omega

/-- two sides: the common nodes and all nodes together take no more than both -/
theorem cap_submod {m : Nat} {fr to cap : Nat → Int} (hc : ∀ i, i < m → 0 ≤ cap i) (S T : Int → Bool) :
    capOf m fr to cap (fun v => S v && T v) + capOf m fr to cap (fun v => S v || T v) ≤ capOf m fr to cap S + capOf m fr to cap T := by
  unfold capOf
  rw [← sumTo_add, ← sumTo_add]
  refine sumTo_le fun i hi => ?_
  have := hc i hi
  cases h1 : S (fr i) <;> cases h2 : S (to i) <;> cases h3 : T (fr i) <;> cases h4 : T (to i) <;> simp [h1, h2, h3, h4] <;> omega

end Go.Proofs.Ythbffhlfdjpfaaa
